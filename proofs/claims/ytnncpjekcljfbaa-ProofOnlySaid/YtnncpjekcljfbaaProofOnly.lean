/- As long as there is no clash, just the same children, and the same bytes, fit a digest: the statement ProofOnly holds, of all digests and bytes. -/
import Derived.Test.YtnncpjekcljfbaaSetF
namespace Go.Proofs.Ytnncpjekcljfbaa
open Go.ChangeShapes Go.WideShapes Go.ChangeAt Go.RowKit

attribute [local irreducible] wpOrd
/-- two slices in an array -/
def prs (x y : SlC) : Array Value := #[.slice x.A x.n x.c, .slice y.A y.n y.c]
@[simp, go_sem] theorem prs_size (x y : SlC) : (prs x y).size = 2 := by simp [prs]
@[simp, go_sem] theorem prs_one (x y : SlC) : oneB (prs x y) = true := by unfold prs oneB; exact (by rfl : _ = _)
section
variable {H : Type} {enc : TypeId × Value → H} {W : World}
theorem digs_len {cs : List Value} (h : ReadsAs enc Try.prog W 41 cs) {A : Option Addr} {n c : Nat} (hc : cs = [.slice A n c]) : n ≤ 140737488351232 := by
  obtain ⟨A', n', c', rfl, hle, hmax, hb, hi⟩ := h.slice Try.underlying41 dig_cells (by omega)
  simp only [List.cons.injEq, Value.slice.injEq, and_true] at hc
  obtain ⟨rfl, rfl, rfl⟩ := hc
  have hbb : Try.prog.bytesOf 46 = 32 := by kernel_rfl
  rw [hbb] at hb; unfold reachBytes at hb; omega
theorem prs_cells : Try.prog.cellsOf 104 = 2 := by kernel_rfl
theorem open_prs {cs : List Value} (h : ReadsAs enc Try.prog W 104 cs) : ∃ (x y : SlC) (R1 R2 : Bytes), cs = [x.v, y.v] ∧ LeafAt W x R1 ∧ LeafAt W y R2 ∧ R1.length ≤ 140737488351232 ∧ R2.length ≤ 140737488351232 := by
  obtain ⟨hl, hi⟩ := h.array Try.underlying104 bs_cells
  rw [prs_cells] at hl
  match cs, hl with
  | [c0, c1], _ =>
    have e0 := hi 0 (by omega)
    have e1 := hi 1 (by omega)
    obtain ⟨x, R1, h1, hx, hR1⟩ := open_bytes e0
    obtain ⟨y, R2, h2, hy, hR2⟩ := open_bytes e1
    simp at h1 h2
    subst h1 h2
    exact ⟨x, y, R1, R2, rfl, hx, hy, hR1, hR2⟩
end
theorem take_same {a b : List Dig} (hl : a.length = b.length) {k : Nat} (h1 : k < a.length) (h2 : k < b.length) (ht : a.take k = b.take k) : a.take (k + 1) = b.take (k + 1) ↔ a[k] = b[k] := by
  rw [List.take_succ_eq_append_getElem h1, List.take_succ_eq_append_getElem h2, ht]
  exact ⟨fun h => by have := List.append_cancel_left h; simpa using this, fun h => by rw [h]⟩

set_option maxHeartbeats 1600000 in
set_option maxRecDepth 20000 in
theorem ProofOnly_walk (A1 A2 : Option Addr) (c1 c2 : Nat) (D1 D2 : List Dig) (x y : SlC) (R1 R2 : Bytes) (w : World) (h1 : Digs w A1 D1) (h2 : Digs w A2 D2) (hl1 : D1.length ≤ 140737488351232) (hl2 : D2.length ≤ 140737488351232)
    (hx : LeafAt w x R1) (hy : LeafAt w y R2) (hR1 : R1.length ≤ 140737488351232) (hR2 : R2.length ≤ 140737488351232) :
    Calls Try.prog 13 #[.slice A1 D1.length c1, .slice A2 D2.length c2, .agg (prs x y)] w fun e w' => e = .returned (.bool true) ∧ Kept w w' := by
  obtain ⟨XA, xc, rfl, hxc, hxb⟩ := hx.form
  obtain ⟨YA, yc, rfl, hyc, hyb⟩ := hy.form
  have hnot : ∀ (x : Bool) (w : World), (Op.unary .not (.bool x)).run Try.prog w = .ok (.bool (!x)) w := fun _ _ => rfl
  have hk0 : Kept w (w.alloc (.cells (prs ⟨XA, R1.length, xc⟩ ⟨YA, R2.length, yc⟩) 104)) := (Upd.refl _ w).alloc _
  have hb0 : Blk (w.alloc (.cells (prs ⟨XA, R1.length, xc⟩ ⟨YA, R2.length, yc⟩) 104)) w.heap.size 104 [.slice XA R1.length xc, .slice YA R2.length yc] := Blk.new w _ _
  have HK0 := Lib.hid hk0
  have HA := Lib.hid (And.intro (h1.kept hk0) (And.intro (h2.kept hk0) (And.intro hl1 (And.intro hl2 (And.intro (hxb.kept hk0) (And.intro (hyb.kept hk0) (And.intro hR1 hR2)))))))
  have HB := Lib.hid hb0
  clear h1 h2 hl1 hl2 hx hy hR1 hR2 hxc hyc hxb hyb hk0 hb0
  obtain ⟨n1, hn1⟩ : ∃ n1, n1 = D1.length := ⟨_, rfl⟩
  obtain ⟨n2, hn2⟩ : ∃ n2, n2 = D2.length := ⟨_, rfl⟩
  obtain ⟨m1, hm1⟩ : ∃ m1, m1 = R1.length := ⟨_, rfl⟩
  obtain ⟨m2, hm2⟩ : ∃ m2, m2 = R2.length := ⟨_, rfl⟩
  rw [← hm1, ← hm2] at HK0 HA HB
  rw [← hn1, ← hn2, ← hm1, ← hm2]
  have HN := Lib.hid (And.intro hn1 (And.intro hn2 (And.intro hm1 hm2)))
  clear hn1 hn2 hm1 hm2
  go_enter Try.func13, Try.ntmps13
  go_wp2_with fail
  obtain ⟨g0, hg0⟩ : ∃ g0, g0 = w.heap.size := ⟨_, rfl⟩
  rw [← hg0] at HB ⊢
  clear hg0
  generalize w.alloc (.cells (prs ⟨XA, m1, xc⟩ ⟨YA, m2, yc⟩) 104) = wA at *
  refine (law_works10 _).mono ?_
  rintro e w1 ⟨rfl, hu⟩
  have HU := Lib.hid hu
  clear hu
  go_wp2_with fail
  refine (law_book _).mono ?_
  rintro e w2 ⟨b, r, q, rfl, hI⟩
  have HI := Lib.hid (hI.back HU.out)
  clear hI HU
  have HG := tree_Up_any HI.out.book c1 (HA.out.1.kept HI.out.upd)
  rw [← HN.out.1] at HG
  go_wp2_with fail
  refine HG.mono ?_
  clear HG
  rintro e w3 ⟨y1, z1, rfl, ⟨L1, hb, -, hz1⟩, hu⟩
  have hd4 : Blk (w3.alloc (.cells (dA y1) 46)) w3.heap.size 46 (encB (y1).1) := Blk.new w3 _ _
  have hk4 : Kept w3 (w3.alloc (.cells (dA y1) 46)) := (Upd.refl _ w3).alloc _
  have HI4 := Lib.hid ((HI.out.to hb hu).kept hk4)
  have HZ1 := Lib.hid hz1
  have HD4 := Lib.hid hd4
  have HB4 := Lib.hid (HB.out.kept HI4.out.upd)
  have s0 := HB4.out.cell (k := 0) rfl
  clear hb hu hk4 hd4 hz1 HI HB
  have HG := tree_Leaf_any HI4.out.book xc (HA.out.2.2.2.2.1.kept HI4.out.upd)
  rw [← HN.out.2.2.1] at HG
  go_wp2_with fail
  obtain ⟨g4, hg4⟩ : ∃ g4, g4 = w3.heap.size := ⟨_, rfl⟩
  rw [← hg4] at HD4 ⊢
  clear hg4
  generalize w3.alloc (.cells (dA y1) 46) = w4 at *
  refine HG.mono ?_
  clear HG s0
  rintro e w5 ⟨y2, z2, rfl, ⟨L2, hb, hLL, hz2⟩, hu⟩
  have hd6 : Blk (w5.alloc (.cells (dA y2) 46)) w5.heap.size 46 (encB (y2).1) := Blk.new w5 _ _
  have hk6 : Kept w5 (w5.alloc (.cells (dA y2) 46)) := (Upd.refl _ w5).alloc _
  have HI6 := Lib.hid ((HI4.out.to hb hu).kept hk6)
  have HZ2 := Lib.hid hz2
  have HLL := Lib.hid hLL
  have HD6 := Lib.hid (And.intro ((HD4.out.upd hu (HI4.out.book.not HD4.out (by decide))).kept hk6) hd6)
  have HB6 := Lib.hid ((HB4.out.upd hu (HI4.out.book.not HB4.out (by decide))).kept hk6)
  clear hb hu hk6 hd6 hz2 hLL HI4 HB4 HD4
  go_wp2_with fail
  obtain ⟨g6, hg6⟩ : ∃ g6, g6 = w5.heap.size := ⟨_, rfl⟩
  rw [← hg6] at HD6 ⊢
  clear hg6
  generalize w5.alloc (.cells (dA y2) 46) = w6 at *
  have n4 : ¬ Book3 b r q g4 := HI6.out.book.not HD6.out.1 (by decide)
  have n6 : ¬ Book3 b r q g6 := HI6.out.book.not HD6.out.2 (by decide)
  have n0 : ¬ Book3 b r q g0 := HI6.out.book.not HB6.out (by decide)
  have f1 : ∀ W, Upd (Book3 b r q) w6 W → segB W ⟨g4, 0, none⟩ 32 = true := fun W hW => (dig_at (HD6.out.1.upd hW n4)).1
  have f2 : ∀ W, Upd (Book3 b r q) w6 W → segV W ⟨g4, 0, none⟩ 32 = dA y1 := fun W hW => (dig_at (HD6.out.1.upd hW n4)).2
  have f3 : ∀ W, Upd (Book3 b r q) w6 W → segB W ⟨g6, 0, none⟩ 32 = true := fun W hW => (dig_at (HD6.out.2.upd hW n6)).1
  have f4 : ∀ W, Upd (Book3 b r q) w6 W → segV W ⟨g6, 0, none⟩ 32 = dA y2 := fun W hW => (dig_at (HD6.out.2.upd hW n6)).2
  have f5 : ∀ W, Upd (Book3 b r q) w6 W → W.cell? ⟨g0, 1, none⟩ = some (.slice YA m2 yc) := fun W hW => (HB6.out.upd hW n0).cell (k := 1) rfl
  clear n4 n6
  refine wp_region_ord [(0, true), (1, true), (2, true), (4, true), (5, true), (6, true), (7, true), (3, false), (8, false), (9, true), (10, true)] (by kernel_rfl) (by kernel_rfl) (Upd (Book3 b r q) w6) (Upd.refl _ _).drew ?_
  simp only [ordOps, List.getD_cons_zero, List.getD_cons_succ]
  iterate 7 (refine wpOrd_held (fun K hK => ?_); go_simp; first | (apply Exists.intro; refine ⟨fun W hW => ?_, hK _ ?_⟩; (go_simp; first | done | exact rfl); clear hK K) | (refine hK _ ?_; clear hK K))
  clear f1 f2 f3 f4 f5
  have hud : Kept w6 w6.drew := (Upd.refl _ _).drew
  have hSd : Upd (Book3 b r q) w6 w6.drew := hud.to
  generalize w6.drew = wd at *
  refine wpOrd_step (fun K hK => ?_) hSd
  go_simp
  have hId := HI6.out.kept hud
  have HG := proof_Fits_any hId.book c2 (HA.out.2.1.kept hId.upd) y1
  rw [← HN.out.2.1] at HG
  refine HG.mono ?_
  clear HG
  rintro e we ⟨z3, rfl, ⟨L3, hb, hLL3, hz3⟩, hu⟩
  have hIe := hId.to hb hu
  have hSe := hSd.trans hu
  have HZ3 := Lib.hid (And.intro hLL3 hz3)
  refine hK _ _ hSe ?_
  clear hK K hb hu hLL3 hz3 hId hSd hud
  refine wpOrd_step (fun K hK => ?_) hSe
  go_simp
  have HG := proof_LeafFits_any hIe.book yc (HA.out.2.2.2.2.2.1.kept hIe.upd) y2
  rw [← HN.out.2.2.2] at HG
  refine HG.mono ?_
  clear HG
  rintro e wf ⟨z4, rfl, ⟨L4, hb, hLL4, hz4⟩, hu⟩
  have HIf := Lib.hid (hIe.to hb hu)
  have hSf := hSe.trans hu
  have HZ4 := Lib.hid (And.intro hLL4 hz4)
  have HBf := Lib.hid (HB6.out.upd hSf n0)
  refine hK _ _ hSf ?_
  clear hK K hb hu hLL4 hz4 hIe hSe HB6 HD6 HI6 n0
  iterate 2 (refine wpOrd_held (fun K hK => ?_); go_simp; first | (apply Exists.intro; refine ⟨fun W hW => ?_, hK _ ?_⟩; (go_simp; first | done | exact rfl); clear hK K) | (refine hK _ ?_; clear hK K))
  refine wpOrd_nil ?_
  clear hSf
  go_wp2_with fail
  refine (book_Clash HIf.out.book).mono ?_
  rintro e wg ⟨cb, rfl, hcb, hu⟩
  have HIg := Lib.hid (HIf.out.kept hu)
  have HBg := Lib.hid (HBf.out.kept hu)
  clear hu HIf HBf
  cases cb with
  | true =>
    have HF := Lib.hid (HK0.out.then HIg.out.upd (fun _ _ h => h))
    clear HIg HBg
    go_wp2
    go_ret
    exact ⟨rfl, HF.out⟩
  | false =>
    have HNU : Hid (z1 = 0 → (((z3 : Int) == 0) = true ↔ D1 = D2)) := by
      intro h0
      rcases HZ1.out with ⟨a1, a2, a3, -, a5⟩ | ⟨-, -, a⟩
      · have a6 := HZ4.out.1 _ (HZ3.out.1 _ (HLL.out _ a5))
        rcases HZ3.out.2 with ⟨b1, b2, b3, b4⟩ | ⟨b1, b2⟩
        · have b5 := HZ4.out.1 _ b4
          rw [b3, a3]
          by_cases he : upM shaM D2 = upM shaM D1
          · rw [if_pos he]
            exact ⟨fun _ => (upIn_inj (hcb rfl _ b5 _ a6 he)).symm, fun _ => rfl⟩
          · rw [if_neg he]
            exact ⟨fun h => absurd h (by decide), fun h => absurd (by rw [h]) he⟩
        · rw [b2]
          exact ⟨fun h => absurd h (by decide), fun h => by have e1 := HN.out.1; have e2 := HN.out.2.1; rw [h] at e1; omega⟩
      · rw [h0] at a; exact absurd a (by decide)
    have HZL : Hid (z2 = 0 → R1.length < 65536) := by
      intro h0
      rcases HZ2.out with ⟨a1, -⟩ | ⟨-, -, a⟩
      · rw [← HN.out.2.2.1]; exact a1
      · rw [h0] at a; exact absurd a (by decide)
    have HNL : Hid (z2 = 0 → (((z4 : Int) == 0) = true ↔ R1 = R2)) := by
      intro h0
      rcases HZ2.out with ⟨a1, a2, -, a5⟩ | ⟨-, -, a⟩
      · have a6 := HZ4.out.1 _ (HZ3.out.1 _ a5)
        rcases HZ4.out.2 with ⟨b1, b3, b4⟩ | ⟨b1, b2⟩
        · rw [b3, a2]
          by_cases he : leafM shaM R2 = leafM shaM R1
          · rw [if_pos he]
            exact ⟨fun _ => (leafIn_inj (hcb rfl _ b4 _ a6 he)).symm, fun _ => rfl⟩
          · rw [if_neg he]
            exact ⟨fun h => absurd h (by decide), fun h => absurd (by rw [h]) he⟩
        · rw [b2]
          exact ⟨fun h => absurd h (by decide), fun h => by have e1 := HN.out.2.2.1; have e2 := HN.out.2.2.2; rw [h] at e1; omega⟩
      · rw [h0] at a; exact absurd a (by decide)
    clear HZ1 HZ2 HZ3 HZ4 hcb HLL
    go_wp2_with fail
    go_loopw [15, 14] (fun u1 u2 wr => ∃ (k : Nat) (s : Bool), k ≤ n1 ∧ u1 = .int .i64 k ∧ u2 = .bool s ∧ (s = true ↔ (n1 = n2 ∧ D1.take k = D2.take k)) ∧ Kept wg wr) (fun u1 _ _ => 140737488360000 - (intOf u1).toNat)
    case atStart => exact ⟨0, _, Nat.zero_le _, rfl, rfl, by simp; omega, Upd.refl _ _⟩
    case round =>
      obtain ⟨k, s, hk, rfl, rfl, hs, hu⟩ := hrel
      have hn14 : n1 ≤ 140737488351232 := by rw [HN.out.1]; exact HA.out.2.2.1
      rcases Nat.lt_or_ge k n1 with hlt | hge
      · have hk1 : (k : Int) < (n1 : Int) := by omega
        have hk5 : (k : Int) ≤ 140737488351232 := by omega
        cases s with
        | true =>
          obtain ⟨hnn, ht⟩ := hs.1 rfl
          have hl1 : k < D1.length := by rw [← HN.out.1]; exact hlt
          have hl2 : k < D2.length := by rw [← HN.out.2.1, ← hnn]; exact hlt
          have hk2 : (k : Int) < (n2 : Int) := by omega
          have hk3 : k < n2 := by omega
          have hts := take_same (by rw [← HN.out.1, ← HN.out.2.1, hnn]) hl1 hl2 ht
          have hkw : ∀ W, Kept wr W → Kept wA W := fun W hW => HIg.out.upd.then (hu.then hW (fun _ _ h => h)) (fun _ _ h => h)
          obtain ⟨ga, oa, hA1, -, -⟩ := (HA.out.1.kept (hkw wr (Upd.refl _ _))).get hl1
          obtain ⟨gb, ob, hA2, -, -⟩ := (HA.out.2.1.kept (hkw wr (Upd.refl _ _))).get hl2
          have hf : ∀ W, Kept wr W → (segB W ⟨ga, oa + k * 32, none⟩ 32 = true ∧ segV W ⟨ga, oa + k * 32, none⟩ 32 = dA D1[k]) ∧ (segB W ⟨gb, ob + k * 32, none⟩ 32 = true ∧ segV W ⟨gb, ob + k * 32, none⟩ 32 = dA D2[k]) := fun W hW => by
            obtain ⟨g1', o1', e1, s1, s2⟩ := (HA.out.1.kept (hkw W hW)).get hl1
            obtain ⟨g2', o2', e2, s3, s4⟩ := (HA.out.2.1.kept (hkw W hW)).get hl2
            rw [hA1] at e1
            rw [hA2] at e2
            simp only [Option.some.injEq, Addr.mk.injEq, and_true] at e1 e2
            obtain ⟨rfl, rfl⟩ := e1
            obtain ⟨rfl, rfl⟩ := e2
            exact ⟨⟨s1, s2⟩, s3, s4⟩
          obtain ⟨xa, hxa⟩ : ∃ xa, xa = D1[k] := ⟨_, rfl⟩
          obtain ⟨xb, hxb⟩ : ∃ xb, xb = D2[k] := ⟨_, rfl⟩
          rw [← hxa, ← hxb] at hts hf
          have f1 : ∀ W, Kept wr W → segB W ⟨ga, oa + k * 32, none⟩ 32 = true := fun W hW => (hf W hW).1.1
          have f2 : ∀ W, Kept wr W → segV W ⟨ga, oa + k * 32, none⟩ 32 = dA xa := fun W hW => (hf W hW).1.2
          have f3 : ∀ W, Kept wr W → segB W ⟨gb, ob + k * 32, none⟩ 32 = true := fun W hW => (hf W hW).2.1
          have f4 : ∀ W, Kept wr W → segV W ⟨gb, ob + k * 32, none⟩ 32 = dA xb := fun W hW => (hf W hW).2.2
          subst hA1 hA2
          have HT := Lib.hid (And.intro hts (And.intro hnn (And.intro hlt (And.intro hn14 (show Kept wg wr.drew from hu.drew)))))
          clear hs hnn ht hl1 hl2 hts hkw hf hxa hxb hu hlt hk hn14
          go_wp2_with fail
          refine wp_region_ord [(0, true), (1, true), (2, true), (3, true), (4, true), (5, true), (6, true), (7, true), (8, true), (9, true)] (by kernel_rfl) (by kernel_rfl) (Kept wr) (Upd.refl _ _).drew ?_
          simp only [ordOps, List.getD_cons_zero, List.getD_cons_succ]
          iterate 10 (refine wpOrd_held (fun K hK => ?_); go_simp; first | (apply Exists.intro; refine ⟨fun W hW => ?_, hK _ ?_⟩; (go_simp; first | done | exact rfl); clear hK K) | (refine hK _ ?_; clear hK K))
          refine wpOrd_nil ?_
          clear f1 f2 f3 f4
          go_wp2
          go_roundw
          case rel => exact ⟨k + 1, decide (xa = xb), by have := HT.out.2.2.1; omega, by show _ = _; go_num, by first | rfl | simp, by rw [HT.out.1, decide_eq_true_iff]; exact ⟨fun h => ⟨HT.out.2.1, h⟩, fun h => h.2⟩, HT.out.2.2.2.2⟩
          case measure => have := HT.out.2.2.1; have := HT.out.2.2.2.1; simp [intOf]; omega
        | false =>
          have hne : ¬ D1 = D2 := fun h => by
            have : n1 = n2 ∧ D1.take k = D2.take k := ⟨by rw [HN.out.1, HN.out.2.1, h], by rw [h]⟩
            exact absurd (hs.2 this) (by decide)
          have HNE := Lib.hid hne
          clear hs hlt hk hn14 hne
          by_cases hz1 : z1 = 0
          · subst hz1
            have hq3 : ¬ (z3 = 0) := fun h => HNE.out ((HNU.out rfl).1 (by rw [h]; rfl))
            by_cases hz2 : z2 = 0
            · subst hz2
              have hz2l := Lib.hid (HZL.out rfl)
              have HF := Lib.hid (HK0.out.then (HIg.out.upd.then hu (fun _ _ h => h)) (fun _ _ h => h))
              have s0 := (HBg.out.kept hu).cell (k := 0) rfl
              have s1 := (HBg.out.kept hu).cell (k := 1) rfl
              have hb1 := HA.out.2.2.2.2.1.kept (HIg.out.upd.then hu (fun _ _ h => h))
              have hb2 := HA.out.2.2.2.2.2.1.kept (HIg.out.upd.then hu (fun _ _ h => h))
              have HE := ref_EqBytes_any xc yc hb1 hb2 (by have := hz2l.out; omega) (by rw [← HN.out.2.2.2]; exact HA.out.2.2.2.2.2.2.2)
              rw [← HN.out.2.2.1, ← HN.out.2.2.2] at HE
              by_cases hRR : R1 = R2
              · rw [show decide (R1 = R2) = true from decide_eq_true hRR] at HE
                have hz4 : z4 = 0 := by simpa using (HNL.out rfl).2 hRR
                subst hz4
                clear hb1 hb2 hRR HIg HBg
                go_wp2_with fail
                refine HE.mono ?_
                rintro e wz ⟨rfl, huz⟩
                replace HF := Lib.hid (HF.out.then huz (fun _ _ h => h))
                clear huz HE
                go_wp2
                go_ret
                refine ⟨congrArg (fun t => Ending.returned (Value.bool t)) (?_ : _ = true), HF.out⟩
                first | rfl | (simp; done) | (simp; assumption) | (simp; exact ⟨by assumption, by assumption⟩)
              · rw [show decide (R1 = R2) = false from decide_eq_false hRR] at HE
                have hq4 : ¬ (z4 = 0) := fun h => hRR ((HNL.out rfl).1 (by rw [h]; rfl))
                clear hb1 hb2 hRR HIg HBg
                go_wp2_with fail
                refine HE.mono ?_
                rintro e wz ⟨rfl, huz⟩
                replace HF := Lib.hid (HF.out.then huz (fun _ _ h => h))
                clear huz HE
                go_wp2
                go_ret
                refine ⟨congrArg (fun t => Ending.returned (Value.bool t)) (?_ : _ = true), HF.out⟩
                first | rfl | (simp; done) | (simp; assumption) | (simp; exact ⟨by assumption, by assumption⟩)
            · have HF := Lib.hid (HK0.out.then (HIg.out.upd.then hu (fun _ _ h => h)) (fun _ _ h => h))
              clear HIg HBg
              go_wp2
              go_ret
              refine ⟨congrArg (fun t => Ending.returned (Value.bool t)) (?_ : _ = true), HF.out⟩
              first | rfl | (simp; done) | (simp; assumption) | (simp; exact ⟨by assumption, by assumption⟩)
          · skip
            by_cases hz2 : z2 = 0
            · subst hz2
              have hz2l := Lib.hid (HZL.out rfl)
              have HF := Lib.hid (HK0.out.then (HIg.out.upd.then hu (fun _ _ h => h)) (fun _ _ h => h))
              have s0 := (HBg.out.kept hu).cell (k := 0) rfl
              have s1 := (HBg.out.kept hu).cell (k := 1) rfl
              have hb1 := HA.out.2.2.2.2.1.kept (HIg.out.upd.then hu (fun _ _ h => h))
              have hb2 := HA.out.2.2.2.2.2.1.kept (HIg.out.upd.then hu (fun _ _ h => h))
              have HE := ref_EqBytes_any xc yc hb1 hb2 (by have := hz2l.out; omega) (by rw [← HN.out.2.2.2]; exact HA.out.2.2.2.2.2.2.2)
              rw [← HN.out.2.2.1, ← HN.out.2.2.2] at HE
              by_cases hRR : R1 = R2
              · rw [show decide (R1 = R2) = true from decide_eq_true hRR] at HE
                have hz4 : z4 = 0 := by simpa using (HNL.out rfl).2 hRR
                subst hz4
                clear hb1 hb2 hRR HIg HBg
                go_wp2_with fail
                refine HE.mono ?_
                rintro e wz ⟨rfl, huz⟩
                replace HF := Lib.hid (HF.out.then huz (fun _ _ h => h))
                clear huz HE
                go_wp2
                go_ret
                refine ⟨congrArg (fun t => Ending.returned (Value.bool t)) (?_ : _ = true), HF.out⟩
                first | rfl | (simp; done) | (simp; assumption) | (simp; exact ⟨by assumption, by assumption⟩)
              · rw [show decide (R1 = R2) = false from decide_eq_false hRR] at HE
                have hq4 : ¬ (z4 = 0) := fun h => hRR ((HNL.out rfl).1 (by rw [h]; rfl))
                clear hb1 hb2 hRR HIg HBg
                go_wp2_with fail
                refine HE.mono ?_
                rintro e wz ⟨rfl, huz⟩
                replace HF := Lib.hid (HF.out.then huz (fun _ _ h => h))
                clear huz HE
                go_wp2
                go_ret
                refine ⟨congrArg (fun t => Ending.returned (Value.bool t)) (?_ : _ = true), HF.out⟩
                first | rfl | (simp; done) | (simp; assumption) | (simp; exact ⟨by assumption, by assumption⟩)
            · have HF := Lib.hid (HK0.out.then (HIg.out.upd.then hu (fun _ _ h => h)) (fun _ _ h => h))
              clear HIg HBg
              go_wp2
              go_ret
              refine ⟨congrArg (fun t => Ending.returned (Value.bool t)) (?_ : _ = true), HF.out⟩
              first | rfl | (simp; done) | (simp; assumption) | (simp; exact ⟨by assumption, by assumption⟩)
      · obtain rfl : k = n1 := by omega
        have hk1 : ¬ ((k : Int) < (k : Int)) := by omega
        have hss : s = true ↔ D1 = D2 := by
          rw [hs]
          constructor
          · rintro ⟨h1, h2⟩
            rw [List.take_of_length_le (by rw [← HN.out.1]; exact Nat.le_refl _), List.take_of_length_le (by rw [← HN.out.2.1, h1]; exact Nat.le_refl _)] at h2
            exact h2
          · intro h
            exact ⟨by have h1 := HN.out.1; have h2 := HN.out.2.1; rw [h] at h1; omega, by rw [h]⟩
        have HSS := Lib.hid hss
        clear hs hge hk hn14 hss
        cases s with
        | true =>
          by_cases hz1 : z1 = 0
          · subst hz1
            have hz3 : z3 = 0 := (by simpa using (HNU.out rfl).2 (HSS.out.1 rfl)); subst hz3
            by_cases hz2 : z2 = 0
            · subst hz2
              have hz2l := Lib.hid (HZL.out rfl)
              have HF := Lib.hid (HK0.out.then (HIg.out.upd.then hu (fun _ _ h => h)) (fun _ _ h => h))
              have s0 := (HBg.out.kept hu).cell (k := 0) rfl
              have s1 := (HBg.out.kept hu).cell (k := 1) rfl
              have hb1 := HA.out.2.2.2.2.1.kept (HIg.out.upd.then hu (fun _ _ h => h))
              have hb2 := HA.out.2.2.2.2.2.1.kept (HIg.out.upd.then hu (fun _ _ h => h))
              have HE := ref_EqBytes_any xc yc hb1 hb2 (by have := hz2l.out; omega) (by rw [← HN.out.2.2.2]; exact HA.out.2.2.2.2.2.2.2)
              rw [← HN.out.2.2.1, ← HN.out.2.2.2] at HE
              by_cases hRR : R1 = R2
              · rw [show decide (R1 = R2) = true from decide_eq_true hRR] at HE
                have hz4 : z4 = 0 := by simpa using (HNL.out rfl).2 hRR
                subst hz4
                clear hb1 hb2 hRR HIg HBg
                go_wp2_with fail
                refine HE.mono ?_
                rintro e wz ⟨rfl, huz⟩
                replace HF := Lib.hid (HF.out.then huz (fun _ _ h => h))
                clear huz HE
                go_wp2
                go_ret
                refine ⟨congrArg (fun t => Ending.returned (Value.bool t)) (?_ : _ = true), HF.out⟩
                first | rfl | (simp; done) | (simp; assumption) | (simp; exact ⟨by assumption, by assumption⟩)
              · rw [show decide (R1 = R2) = false from decide_eq_false hRR] at HE
                have hq4 : ¬ (z4 = 0) := fun h => hRR ((HNL.out rfl).1 (by rw [h]; rfl))
                clear hb1 hb2 hRR HIg HBg
                go_wp2_with fail
                refine HE.mono ?_
                rintro e wz ⟨rfl, huz⟩
                replace HF := Lib.hid (HF.out.then huz (fun _ _ h => h))
                clear huz HE
                go_wp2
                go_ret
                refine ⟨congrArg (fun t => Ending.returned (Value.bool t)) (?_ : _ = true), HF.out⟩
                first | rfl | (simp; done) | (simp; assumption) | (simp; exact ⟨by assumption, by assumption⟩)
            · have HF := Lib.hid (HK0.out.then (HIg.out.upd.then hu (fun _ _ h => h)) (fun _ _ h => h))
              clear HIg HBg
              go_wp2
              go_ret
              refine ⟨congrArg (fun t => Ending.returned (Value.bool t)) (?_ : _ = true), HF.out⟩
              first | rfl | (simp; done) | (simp; assumption) | (simp; exact ⟨by assumption, by assumption⟩)
          · skip
            by_cases hz2 : z2 = 0
            · subst hz2
              have hz2l := Lib.hid (HZL.out rfl)
              have HF := Lib.hid (HK0.out.then (HIg.out.upd.then hu (fun _ _ h => h)) (fun _ _ h => h))
              have s0 := (HBg.out.kept hu).cell (k := 0) rfl
              have s1 := (HBg.out.kept hu).cell (k := 1) rfl
              have hb1 := HA.out.2.2.2.2.1.kept (HIg.out.upd.then hu (fun _ _ h => h))
              have hb2 := HA.out.2.2.2.2.2.1.kept (HIg.out.upd.then hu (fun _ _ h => h))
              have HE := ref_EqBytes_any xc yc hb1 hb2 (by have := hz2l.out; omega) (by rw [← HN.out.2.2.2]; exact HA.out.2.2.2.2.2.2.2)
              rw [← HN.out.2.2.1, ← HN.out.2.2.2] at HE
              by_cases hRR : R1 = R2
              · rw [show decide (R1 = R2) = true from decide_eq_true hRR] at HE
                have hz4 : z4 = 0 := by simpa using (HNL.out rfl).2 hRR
                subst hz4
                clear hb1 hb2 hRR HIg HBg
                go_wp2_with fail
                refine HE.mono ?_
                rintro e wz ⟨rfl, huz⟩
                replace HF := Lib.hid (HF.out.then huz (fun _ _ h => h))
                clear huz HE
                go_wp2
                go_ret
                refine ⟨congrArg (fun t => Ending.returned (Value.bool t)) (?_ : _ = true), HF.out⟩
                first | rfl | (simp; done) | (simp; assumption) | (simp; exact ⟨by assumption, by assumption⟩)
              · rw [show decide (R1 = R2) = false from decide_eq_false hRR] at HE
                have hq4 : ¬ (z4 = 0) := fun h => hRR ((HNL.out rfl).1 (by rw [h]; rfl))
                clear hb1 hb2 hRR HIg HBg
                go_wp2_with fail
                refine HE.mono ?_
                rintro e wz ⟨rfl, huz⟩
                replace HF := Lib.hid (HF.out.then huz (fun _ _ h => h))
                clear huz HE
                go_wp2
                go_ret
                refine ⟨congrArg (fun t => Ending.returned (Value.bool t)) (?_ : _ = true), HF.out⟩
                first | rfl | (simp; done) | (simp; assumption) | (simp; exact ⟨by assumption, by assumption⟩)
            · have HF := Lib.hid (HK0.out.then (HIg.out.upd.then hu (fun _ _ h => h)) (fun _ _ h => h))
              clear HIg HBg
              go_wp2
              go_ret
              refine ⟨congrArg (fun t => Ending.returned (Value.bool t)) (?_ : _ = true), HF.out⟩
              first | rfl | (simp; done) | (simp; assumption) | (simp; exact ⟨by assumption, by assumption⟩)
        | false =>
          by_cases hz1 : z1 = 0
          · subst hz1
            have hq3 : ¬ (z3 = 0) := fun h => absurd (HSS.out.2 ((HNU.out rfl).1 (by rw [h]; rfl))) (by decide)
            by_cases hz2 : z2 = 0
            · subst hz2
              have hz2l := Lib.hid (HZL.out rfl)
              have HF := Lib.hid (HK0.out.then (HIg.out.upd.then hu (fun _ _ h => h)) (fun _ _ h => h))
              have s0 := (HBg.out.kept hu).cell (k := 0) rfl
              have s1 := (HBg.out.kept hu).cell (k := 1) rfl
              have hb1 := HA.out.2.2.2.2.1.kept (HIg.out.upd.then hu (fun _ _ h => h))
              have hb2 := HA.out.2.2.2.2.2.1.kept (HIg.out.upd.then hu (fun _ _ h => h))
              have HE := ref_EqBytes_any xc yc hb1 hb2 (by have := hz2l.out; omega) (by rw [← HN.out.2.2.2]; exact HA.out.2.2.2.2.2.2.2)
              rw [← HN.out.2.2.1, ← HN.out.2.2.2] at HE
              by_cases hRR : R1 = R2
              · rw [show decide (R1 = R2) = true from decide_eq_true hRR] at HE
                have hz4 : z4 = 0 := by simpa using (HNL.out rfl).2 hRR
                subst hz4
                clear hb1 hb2 hRR HIg HBg
                go_wp2_with fail
                refine HE.mono ?_
                rintro e wz ⟨rfl, huz⟩
                replace HF := Lib.hid (HF.out.then huz (fun _ _ h => h))
                clear huz HE
                go_wp2
                go_ret
                refine ⟨congrArg (fun t => Ending.returned (Value.bool t)) (?_ : _ = true), HF.out⟩
                first | rfl | (simp; done) | (simp; assumption) | (simp; exact ⟨by assumption, by assumption⟩)
              · rw [show decide (R1 = R2) = false from decide_eq_false hRR] at HE
                have hq4 : ¬ (z4 = 0) := fun h => hRR ((HNL.out rfl).1 (by rw [h]; rfl))
                clear hb1 hb2 hRR HIg HBg
                go_wp2_with fail
                refine HE.mono ?_
                rintro e wz ⟨rfl, huz⟩
                replace HF := Lib.hid (HF.out.then huz (fun _ _ h => h))
                clear huz HE
                go_wp2
                go_ret
                refine ⟨congrArg (fun t => Ending.returned (Value.bool t)) (?_ : _ = true), HF.out⟩
                first | rfl | (simp; done) | (simp; assumption) | (simp; exact ⟨by assumption, by assumption⟩)
            · have HF := Lib.hid (HK0.out.then (HIg.out.upd.then hu (fun _ _ h => h)) (fun _ _ h => h))
              clear HIg HBg
              go_wp2
              go_ret
              refine ⟨congrArg (fun t => Ending.returned (Value.bool t)) (?_ : _ = true), HF.out⟩
              first | rfl | (simp; done) | (simp; assumption) | (simp; exact ⟨by assumption, by assumption⟩)
          · skip
            by_cases hz2 : z2 = 0
            · subst hz2
              have hz2l := Lib.hid (HZL.out rfl)
              have HF := Lib.hid (HK0.out.then (HIg.out.upd.then hu (fun _ _ h => h)) (fun _ _ h => h))
              have s0 := (HBg.out.kept hu).cell (k := 0) rfl
              have s1 := (HBg.out.kept hu).cell (k := 1) rfl
              have hb1 := HA.out.2.2.2.2.1.kept (HIg.out.upd.then hu (fun _ _ h => h))
              have hb2 := HA.out.2.2.2.2.2.1.kept (HIg.out.upd.then hu (fun _ _ h => h))
              have HE := ref_EqBytes_any xc yc hb1 hb2 (by have := hz2l.out; omega) (by rw [← HN.out.2.2.2]; exact HA.out.2.2.2.2.2.2.2)
              rw [← HN.out.2.2.1, ← HN.out.2.2.2] at HE
              by_cases hRR : R1 = R2
              · rw [show decide (R1 = R2) = true from decide_eq_true hRR] at HE
                have hz4 : z4 = 0 := by simpa using (HNL.out rfl).2 hRR
                subst hz4
                clear hb1 hb2 hRR HIg HBg
                go_wp2_with fail
                refine HE.mono ?_
                rintro e wz ⟨rfl, huz⟩
                replace HF := Lib.hid (HF.out.then huz (fun _ _ h => h))
                clear huz HE
                go_wp2
                go_ret
                refine ⟨congrArg (fun t => Ending.returned (Value.bool t)) (?_ : _ = true), HF.out⟩
                first | rfl | (simp; done) | (simp; assumption) | (simp; exact ⟨by assumption, by assumption⟩)
              · rw [show decide (R1 = R2) = false from decide_eq_false hRR] at HE
                have hq4 : ¬ (z4 = 0) := fun h => hRR ((HNL.out rfl).1 (by rw [h]; rfl))
                clear hb1 hb2 hRR HIg HBg
                go_wp2_with fail
                refine HE.mono ?_
                rintro e wz ⟨rfl, huz⟩
                replace HF := Lib.hid (HF.out.then huz (fun _ _ h => h))
                clear huz HE
                go_wp2
                go_ret
                refine ⟨congrArg (fun t => Ending.returned (Value.bool t)) (?_ : _ = true), HF.out⟩
                first | rfl | (simp; done) | (simp; assumption) | (simp; exact ⟨by assumption, by assumption⟩)
            · have HF := Lib.hid (HK0.out.then (HIg.out.upd.then hu (fun _ _ h => h)) (fun _ _ h => h))
              clear HIg HBg
              go_wp2
              go_ret
              refine ⟨congrArg (fun t => Ending.returned (Value.bool t)) (?_ : _ = true), HF.out⟩
              first | rfl | (simp; done) | (simp; assumption) | (simp; exact ⟨by assumption, by assumption⟩)
set_option maxRecDepth 100000 in
theorem ProofOnly_lifted (os : Os) (started : os.Started) (H : Type) (enc : TypeId × Value → H) :
    ReturnsInHanded {} Try.checked os 13 .any (Rows.proofOnlySpec.pre6 enc Try.prog Try.f13 Rows.proofOnlyRow.domain false) (Rows.proofOnlySpec.post enc Try.prog Try.f13 false true false false) := by
  refine law_lifted os started Try.func13 (by kernel_rfl) rfl rfl (by kernel_rfl) ?_
    (ChangeSpec.witness6 (enc := enc) (C := Try.checked) false ⟨#[], #[.slice none 0 0, .slice none 0 0, .agg #[.slice none 0 0,.slice none 0 0]], []⟩ 8 (by kernel_rfl) (by kernel_rfl) (by kernel_rfl) (by kernel_rfl)) ?_
  · intro ds h
    rw [Try.params13] at h
    match ds, h with
    | [d0, d1, d2], _ => rfl
  · intro W base args ds ps hval hA hsz
    rw [Try.params13] at hA hval hsz
    obtain ⟨v0, vs0, d0, ds0, p0, q0, hargs, rfl, rfl, h0, r_0⟩ := trodAll_cons hA
    obtain ⟨v1, vs1, d1, ds1, p1, q1, rfl, rfl, rfl, h1, r_1⟩ := trodAll_cons r_0
    obtain ⟨v2, vs2, d2, ds2, p2, q2, rfl, rfl, rfl, h2, r_2⟩ := trodAll_cons r_1
    obtain ⟨rfl, rfl, rfl⟩ := trodAll_nil r_2
    obtain rfl : args = #[v0, v1, v2] := by cases args; simp_all
    obtain ⟨A0, n0, c0, rfl⟩ := okWide_slice Try.underlying41 (hval 0 41 v0 rfl rfl)
    have r0 := ReadsAs.of_trod hsz (j := 0) rfl rfl h0
    obtain ⟨A1, n1, c1, rfl⟩ := okWide_slice Try.underlying41 (hval 1 41 v1 rfl rfl)
    have r1 := ReadsAs.of_trod hsz (j := 1) rfl rfl h1
    obtain ⟨cs2, rfl, _⟩ := ok_agg (P := Try.prog) (t := 104) (by kernel_rfl) (hval 2 104 v2 rfl rfl)
    have r2 := ReadsAs.of_trod hsz (j := 2) rfl rfl h2
    obtain ⟨A, c, D, hcs, hD, _⟩ := open_digs r0
    have hDl := digs_len r0 hcs
    simp only [Value.cells, List.cons.injEq, Value.slice.injEq, and_true] at hcs
    obtain ⟨rfl, rfl, rfl⟩ := hcs
    obtain ⟨A', c', D', hcs', hD', _⟩ := open_digs r1
    have hDl' := digs_len r1 hcs'
    simp only [Value.cells, List.cons.injEq, Value.slice.injEq, and_true] at hcs'
    obtain ⟨rfl, rfl, rfl⟩ := hcs'
    obtain ⟨x, y, R1, R2, hcs2, hx, hy, hR1, hR2⟩ := open_prs r2
    obtain rfl : cs2 = prs x y := Array.toList_inj.1 (by simpa [prs, Value.cells, SlC.v_eq] using hcs2)
    exact ProofOnly_walk _ _ _ _ D D' x y R1 R2 W hD hD' hDl hDl' hx hy hR1 hR2

theorem ProofOnly_holds : Rows.ProofOnlySaid :=
  OpenClaim.holds_of_wide 13 Try.f13 rfl rfl rfl rfl rfl rfl rfl ⟨rfl, rfl, rfl, rfl, rfl⟩ rfl rfl rfl rfl rfl (by kernel_rfl) Try.func13 (by kernel_rfl)
    (of_decide_eq_true (by kernel_rfl)) (by unfold Func.isWrapper; first | (rw [if_pos (by decide +kernel)]; kernel_rfl) | (rw [if_neg (by decide +kernel)]; exact ⟨rfl, rfl⟩))
    (fun os started H enc _ => ProofOnly_lifted os started H enc)
end Go.Proofs.Ytnncpjekcljfbaa
