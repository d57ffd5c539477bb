import Derived.Test.YtepjbijhkkjbfaaGreatSetZt
import Derived.Test.YtepjbijhkkjbfaaGreatSetZh
import Derived.Test.YtepjbijhkkjbfaaGreatSetZg
set_option linter.unusedVariables false
set_option linter.unusedSimpArgs false
namespace Go.Proofs.YtepjbijhkkjbfaaGreat
open Go.RowKit
attribute [local irreducible] wpOrd
set_option maxHeartbeats 800000 in
set_option maxRecDepth 20000 in
theorem law21_six (w : World) : Calls Tryz.prog 32 #[] w fun e W => ∃ A, e = .returned (.slice A 6 6) ∧ ∃ l, l.map (·.2) = six ∧ OwnLv W w.heap.size (.slice A 6 6) l ∧ Kept w W := by
  obtain ⟨v1, w1, hbs1, hB1, hk1⟩ := run_bs1 1 w
  change (sliceRow 42 1 #[(0, .int .u8 1)]).run Tryz.prog w = _ at hbs1
  obtain ⟨A1, c1, rfl, hc1, hb1⟩ := byt_one hB1; obtain ⟨v2, w2, hbs2, hB2, hk2⟩ := run_bs1 2 w1
  change (sliceRow 42 1 #[(0, .int .u8 2)]).run Tryz.prog w1 = _ at hbs2
  obtain ⟨A2, c2, rfl, hc2, hb2⟩ := byt_one hB2; obtain ⟨v3, w3, hbs3, hB3, hk3⟩ := run_bs1 3 w2
  change (sliceRow 42 1 #[(0, .int .u8 3)]).run Tryz.prog w2 = _ at hbs3
  obtain ⟨A3, c3, rfl, hc3, hb3⟩ := byt_one hB3; obtain ⟨v4, w4, hbs4, hB4, hk4⟩ := run_bs1 4 w3
  change (sliceRow 42 1 #[(0, .int .u8 4)]).run Tryz.prog w3 = _ at hbs4
  obtain ⟨A4, c4, rfl, hc4, hb4⟩ := byt_one hB4; obtain ⟨v5, w5, hbs5, hB5, hk5⟩ := run_bs1 5 w4
  change (sliceRow 42 1 #[(0, .int .u8 5)]).run Tryz.prog w4 = _ at hbs5
  obtain ⟨A5, c5, rfl, hc5, hb5⟩ := byt_one hB5; obtain ⟨v6, w6, hbs6, hB6, hk6⟩ := run_bs1 6 w5
  change (sliceRow 42 1 #[(0, .int .u8 6)]).run Tryz.prog w5 = _ at hbs6
  obtain ⟨A6, c6, rfl, hc6, hb6⟩ := byt_one hB6; have hsl := run_six_bsl A1 A2 A3 A4 A5 A6 c1 c2 c3 c4 c5 c6 w6; have hk7 : Kept w6 (w6.alloc (.cells (sixV A1 A2 A3 A4 A5 A6 c1 c2 c3 c4 c5 c6) 42)) := (Upd.refl _ w6).alloc _; have t6 := hk6.then hk7 (fun _ _ h => h); have t5 := hk5.then t6 (fun _ _ h => h); have t4 := hk4.then t5 (fun _ _ h => h); have t3 := hk3.then t4 (fun _ _ h => h); have t2 := hk2.then t3 (fun _ _ h => h); have t1 := hk1.then t2 (fun _ _ h => h); have s1 := hk1.size; have s2 := hk2.size; have s3 := hk3.size; have s4 := hk4.size; have s5 := hk5.size; have s6 := hk6.size; have HF : Hid (OwnLv (w6.alloc (.cells (sixV A1 A2 A3 A4 A5 A6 c1 c2 c3 c4 c5 c6) 42)) w.heap.size (.slice (some ⟨w6.heap.size, 0, none⟩) 6 6) [(⟨A1, 1, c1⟩, [1]), (⟨A2, 1, c2⟩, [2]), (⟨A3, 1, c3⟩, [3]), (⟨A4, 1, c4⟩, [4]), (⟨A5, 1, c5⟩, [5]), (⟨A6, 1, c6⟩, [6])] ∧ Kept w (w6.alloc (.cells (sixV A1 A2 A3 A4 A5 A6 c1 c2 c3 c4 c5 c6) 42))) := by
    refine ⟨⟨⟨rfl, .inr ⟨w6.heap.size, 6, sixV A1 A2 A3 A4 A5 A6 c1 c2 c3 c4 c5 c6, rfl, by omega, heap_alloc_new w6 _, Nat.le_refl _, by unfold maxLen; omega, rfl, rfl⟩⟩, fun p hp => ?_⟩, t1⟩; simp only [List.mem_cons, List.not_mem_nil, or_false] at hp; rcases hp with rfl | rfl | rfl | rfl | rfl | rfl
    · exact ⟨(hB1.kept t2), by simp⟩
    · exact ⟨(hB2.kept t3).low (by omega), by simp⟩
    · exact ⟨(hB3.kept t4).low (by omega), by simp⟩
    · exact ⟨(hB4.kept t5).low (by omega), by simp⟩
    · exact ⟨(hB5.kept t6).low (by omega), by simp⟩
    · exact ⟨(hB6.kept hk7).low (by omega), by simp⟩
  clear hB1 hB2 hB3 hB4 hB5 hB6 hk1 hk2 hk3 hk4 hk5 hk6 hk7 t1 t2 t3 t4 t5 t6 s1 s2 s3 s4 s5 s6 hb1 hb2 hb3 hb4 hb5 hb6
  go_enter Tryz.func32, Tryz.ntmps32
  go_wp2
  go_ret
  exact ⟨_, rfl, _, rfl, HF.out⟩
def prA (p : Nat × Nat) : Array Value := #[.int .i64 p.1, .int .i64 p.2]
@[simp, go_sem] theorem pr_one (x y : Int) : oneB #[Value.int .i64 x, Value.int .i64 y] = true := by unfold oneB; exact (by rfl : _ = _)
theorem prA_size (p : Nat × Nat) : (prA p).size = 2 := rfl
@[go_sem ↓] theorem exec_build_pr (ρ : Operand → Value) (dst : Option Tmp) (parts : Array (Nat × Operand)) (ty : TypeId) (pos : String) (after : Array Edge) (guard : Option (Nat × Bool)) :
    execOp ρ ⟨dst, .build 94 parts, ty, pos, after, guard⟩ = buildRow 94 (parts.map fun (i, x) => (i, ρ x)) := rfl
@[go_sem] theorem run_build_pr (x y : Int) (W : World) : (buildRow 94 #[(0, .int .i64 x), (1, .int .i64 y)]).run Tryz.prog W = .ok (.value (.agg #[.int .i64 x, .int .i64 y])) W := by
  have H := run_build (P := Tryz.prog) W 94 #[(0, .int .i64 x), (1, .int .i64 y)] #[.int .i64 x, .int .i64 y] (by kernel_rfl); simp [buildRow, H, Result.andThen]
@[go_sem ↓] theorem exec_want (ρ : Operand → Value) (dst : Option Tmp) (parts : Array (Nat × Operand)) (ty : TypeId) (pos : String) (after : Array Edge) (guard : Option (Nat × Bool)) :
    execOp ρ ⟨dst, .buildSlice 95 3 parts, ty, pos, after, guard⟩ = sliceRow 95 3 (parts.map fun (i, x) => (i, ρ x)) := rfl
theorem pr_info : (Tryz.prog.info? 94).map (fun i => (i.size, i.bytes, i.zero)) = some (2, 16, some (.agg #[.int .i64 0, .int .i64 0])) := by kernel_rfl
theorem run_want (W : World) : (sliceRow 95 3 #[(0, .agg #[.int .i64 2, .int .i64 0]), (1, .agg #[.int .i64 1, .int .i64 1]), (2, .agg #[.int .i64 0, .int .i64 4])]).run Tryz.prog W = .ok (.value (.slice (some ⟨W.heap.size, 0, none⟩) 3 3)) (W.alloc (.cells (rowsOf prA want6).toArray 94)) := by
  obtain ⟨i, hi, h2⟩ := Option.map_eq_some_iff.1 pr_info; simp only [Prod.mk.injEq] at h2; have h := run_buildSlice (P := Tryz.prog) W 95 94 3 #[(0, .agg #[.int .i64 2, .int .i64 0]), (1, .agg #[.int .i64 1, .int .i64 1]), (2, .agg #[.int .i64 0, .int .i64 4])] (rowsOf prA want6).toArray i (.agg #[.int .i64 0, .int .i64 0]) Tryz.underlying95 hi h2.2.2 (by rw [h2.1]; omega) (by rw [h2.1]; decide) (by
    rw [h2.1]
    kernel_rfl)
  simp only [sliceRow, Sem.run_bind, h, Result.andThen_ok, Sem.run_pure]
theorem want_rows (W : World) : OwnRows prA 2 (W.alloc (.cells (rowsOf prA want6).toArray 94)) W.heap.size 94 (.slice (some ⟨W.heap.size, 0, none⟩) 3 3) want6 :=
  ⟨rfl, .inr ⟨W.heap.size, 3, (rowsOf prA want6).toArray, rfl, Nat.le_refl _, heap_alloc_new W _, Nat.le_refl _, by unfold maxLen; omega, rfl, rfl⟩⟩
theorem OwnLv.put {W : World} {B : Nat} {v : Value} {l : List (SlC × Bytes)} (h : OwnLv W B v l) {k : Nat} (hk : k < l.length) {x : SlC} {R : Bytes} (hx : OwnB W B x.v R) (hR : R.length ≤ 140737488351232) :
    ∃ g, v.ownBlock = some g ∧ OwnLv (W.setCell ⟨g, k, none⟩ (.slice x.A x.n x.c)) B v (l.set k (x, R)) ∧ W.frozen? ⟨g, k, none⟩ = false ∧ ∃ y, W.cell? ⟨g, k, none⟩ = some y := by
  obtain ⟨g, hg, ho, hf⟩ := own_setCell h.1 (k := k) (by rw [List.length_map]; exact hk) x; obtain ⟨g', c', hv, -, -, hc⟩ := OwnS.cell h.1 (k := k) (by rw [List.length_map]; exact hk); have hgg : g' = g := by rw [hv] at hg; exact Option.some.inj hg
  subst hgg; obtain ⟨cur, hcur⟩ := own_cells h.1 hg; have hu : Upd (fun j => j = g') W (W.setCell ⟨g', k, none⟩ (.slice x.A x.n x.c)) := (Upd.refl _ _).setCell (p := ⟨g', k, none⟩) _ fun _ => rfl; have key : ∀ {y : Value} {S : Bytes}, OwnB W B y S → OwnB (W.setCell ⟨g', k, none⟩ (.slice x.A x.n x.c)) B y S := fun hy => hy.upd hu fun j e1 e2 => by
    obtain ⟨cur2, hc2⟩ := hy.block e1; exact cells_ne hc2 hcur (by decide) e2
  refine ⟨g', hg, ⟨by rw [List.map_set]; exact ho, fun p hp => ?_⟩, hf, _, hc⟩; rcases List.mem_or_eq_of_mem_set hp with h1 | h1
  · exact ⟨key (h.2 p h1).1, (h.2 p h1).2⟩
  · rw [h1]; exact ⟨key hx, hR⟩
theorem FW.swap {w0 W : World} {b r q lo hi t : Nat} {L : List Bytes} {v v' : Value} {lv lv' : List (SlC × Bytes)} {B f m1 m2 gs cs : Nat} {root : Dig} {O : Option (List Bytes)} {s : KM × BM} {hv ov : Value} (h : FW w0 W b r q lo hi t L v lv B f m1 m2 root O s gs cs hv ov) (ho : OwnLv W w0.heap.size v' lv') (hs : secs lv' = secs lv) : FW w0 W b r q lo hi t L v' lv' B f m1 m2 root O s gs cs hv ov := by
  have hl : lv'.length = lv.length := by have := congrArg List.length hs; simpa using this
  obtain ⟨hm, hf, hB⟩ := h; exact ⟨⟨hm.ink, by rw [hs]; exact hm.tree, hm.lo, by rw [hs]; exact hm.noted, ho, by rw [hl]; exact hm.ne, by rw [hl]; exact hm.le, by rw [hs]; exact hm.len⟩, by rw [hl]; exact hf, hB⟩
theorem OwnLv.low {W : World} {B B' : Nat} {v : Value} {l : List (SlC × Bytes)} (h : OwnLv W B' v l) (hB : B ≤ B') : OwnLv W B v l := ⟨own_base h.1 hB, fun p hp => ⟨(h.2 p hp).1.low hB, (h.2 p hp).2⟩⟩
set_option maxHeartbeats 4000000 in
set_option maxRecDepth 20000 in
theorem law21_works (w : World) : Calls Tryz.prog 10 #[] w fun e W => e = .returned (.bool true) ∧ Kept w W := by
  have hnot : ∀ (x : Bool) (w : World), (Op.unary .not (.bool x)).run Tryz.prog w = .ok (.bool (!x)) w := fun _ _ => rfl
  go_enter Tryz.func10, Tryz.ntmps10
  go_wp2_with fail; refine (law_book w).mono ?_; rintro e w1 ⟨b, r, q, rfl, hI⟩; have HI := Lib.hid hI; clear hI; go_wp2_with fail; refine (law21_six w1).mono ?_; rintro e w2 ⟨A, rfl, l, hl, hlv, hu2⟩; have hl6 : l.length = 6 := by have := congrArg List.length hl; simpa [six] using this
  have HG := law21_made (HI.out.kept hu2) (l := l) (A := A) 6 (by rw [hl6]; exact hlv.low HI.out.upd.size) (by omega) (by omega) (by rw [show secs l = six from hl]; exact six_len); rw [hl6] at HG; have HL := Lib.hid (And.intro hl hl6); clear HI hl hlv hu2 hl6; go_wp2_with fail; refine HG.mono ?_; clear HG; rintro e w3 ⟨t, rfl, lo, hi, L, hM, -, -⟩; have HM := Lib.hid hM; clear hM; go_wp2_with fail; have HG := tree_Root HM.out.tree; obtain ⟨rt, hrt⟩ : ∃ rt, rt = rootM shaM ((secs l).map (leafM shaM)) := ⟨_, rfl⟩; rw [← hrt] at HG; have hrt2 : rt = digL six 2 0 := by
    rw [hrt, show secs l = six from HL.out.1, ← digL_root (show 1 ≤ six.length by decide), show six.length = 6 from rfl, depthM6]
  have HRT := Lib.hid hrt2; clear hrt hrt2; refine HG.mono ?_; clear HG; rintro e w4 ⟨rfl, hu4⟩; have hd5 : Blk (w4.alloc (.cells (dA rt) 23)) w4.heap.size 23 (encB (rt).1) := Blk.new w4 _ _; have hk5 : Kept w4 (w4.alloc (.cells (dA rt) 23)) := (Upd.refl _ w4).alloc _; have H5 := Lib.hid (And.intro ((HM.out.kept hu4).kept hk5) hd5); clear HM hu4 hk5 hd5; go_wp2_with fail; generalize w4.heap.size = g5 at *; generalize w4.alloc (.cells (dA rt) 23) = w5 at *; refine (law21_six w5).mono ?_; rintro e w6 ⟨A6, rfl, l6, hl6, hlv6, hu6⟩; have hll : l6.length = 6 := by have := congrArg List.length hl6; simpa [six] using this
  obtain ⟨v7, w7, hbs7, hB7, hk7⟩ := run_bs1 9 w6
  change (sliceRow 42 1 #[(0, .int .u8 9)]).run Tryz.prog w6 = _ at hbs7
  obtain ⟨A7, c7, rfl, hc7, hb7⟩ := byt_one hB7; have hlv7 := hlv6.kept hk7; have hk57 : Kept w5 w7 := hu6.then hk7 (fun _ _ h => h); obtain ⟨g6, hg6, ho8, hf6, y6, hc6⟩ := hlv7.put (k := 4) (by omega) (x := ⟨A7, 1, c7⟩) (R := [9]) (hB7.low hu6.size) (by simp); obtain ⟨g6', c6', hv6, -, -, -⟩ := OwnS.cell hlv7.1 (k := 0) (by rw [List.length_map]; omega); rw [List.length_map, hll] at hv6; simp only [Value.slice.injEq] at hv6; obtain ⟨rfl, -, rfl⟩ := hv6; have hgg : g6' = g6 := Option.some.inj hg6; subst hgg; have hg6b := (World.ownsRow.lt hlv7.1 g6' rfl).1; have hk8 : Kept w5 (w7.setCell ⟨g6', 4, none⟩ (.slice A7 1 c7)) := hk57.setCell (p := ⟨g6', 4, none⟩) _ (fun h => by have h2 : g6' < w5.heap.size := h; omega); have hs8 : secs (l6.set 4 (⟨A7, 1, c7⟩, [9])) = six9 := by
    rw [secs, List.map_set, show l6.map (·.2) = six from hl6]; rfl
  have hn8 : (l6.set 4 ((⟨A7, 1, c7⟩ : SlC), ([9] : Bytes))).length = 6 := by rw [List.length_set]; exact hll
  have H8 := Lib.hid (And.intro (H5.out.1.kept hk8) (And.intro (H5.out.2.kept hk8) (And.intro ho8 (And.intro hs8 hn8)))); clear H5 hl6 hlv6 hu6 hll hlv7 hk57 hg6 ho8 hg6b hk8 hs8 hn8 hB7 hk7 hc7 hb7; obtain ⟨p1, p2⟩ := dig_at H8.out.2.1; have HG := fetch_Begin1 (l := l6.set 4 (⟨A7, 1, c7⟩, [9])) (A := some ⟨g6', 0, none⟩) H8.out.1.ink.book rt 6 (by omega) (by omega) 6 H8.out.2.2.2.2 (fun W hW => (H8.out.2.2.1.book H8.out.1.ink.book hW).leaves) (by
    have h1 := H8.out.2.2.2.1; intro p hp; have h2 : p.2 ∈ six9 := by rw [← h1]; exact List.mem_map_of_mem hp
    simp only [six9, List.mem_cons, List.not_mem_nil, or_false] at h2; rcases h2 with h | h | h | h | h | h <;> rw [h] <;> simp)
  rw [H8.out.2.2.2.2, H8.out.2.2.2.1] at HG; go_wp2_with fail; clear hf6 hc6 hbs7; generalize w7.setCell ⟨g6', 4, none⟩ (.slice A7 1 c7) = w8 at *; refine HG.mono ?_; clear HG; rintro e w9 ⟨f, rfl, ⟨B, m1, m2, gs, cs, hv, ov, hB, hF⟩, ⟨L9, hb9, hs9, -⟩, hu9⟩; have hst : begS 6 (some six9) rt = st6 0 := by rw [HRT.out]; rfl
  rw [hst] at hF; have H9 := Lib.hid (show FW w w9 b r q lo hi t L9 (.slice A 6 6) l B f m1 m2 rt (some six9) (st6 0) gs cs hv ov from ⟨H8.out.1.to hb9 hs9 hu9, by rw [HL.out.2]; exact hF.other fun k (e : NoT k) => False.elim e, Nat.le_trans H8.out.1.ink.upd.size hB⟩); clear H8 hb9 hs9 hu9 hF hB hst p1 p2; have HG := law21_asks H9.out.fet 2 0; rw [HL.out.2, show askM 6 (st6 0) = some (2, 0) from (six_0 st6_six).2.2.1, decide_eq_true rfl] at HG
  change Calls Tryz.prog _ #[_, .int .i64 2, .int .i64 0] _ _ at HG
  go_wp2_with fail; refine HG.mono ?_; clear HG; rintro e w10 ⟨rfl, hu10⟩; have H10 := Lib.hid (H9.out.kept hu10); clear H9 hu10; go_wp2_with fail
  go_loopw [8] (fun u1 wr => ∃ (k : Nat) (L' : List Bytes) (v' : Value) (l' : List (SlC × Bytes)), k ≤ 3 ∧ u1 = .int .i64 k ∧ FW w wr b r q lo hi t L' v' l' B f m1 m2 rt (some six9) (st6 k) gs cs hv ov ∧ secs l' = six) (fun u1 _ => 2000 - (intOf u1).toNat)
  case atStart => exact ⟨0, L9, _, _, by omega, rfl, H10.out, HL.out.1⟩
  case round =>
    clear H10; obtain ⟨k, L', v', l', hk, rfl, hF, hsl⟩ := hrel; have HSL := Lib.hid (And.intro hsl (show l'.length = 6 by have := congrArg List.length hsl; simpa [six] using this)); clear hsl; rcases Nat.lt_or_ge k 3 with hlt | hge
    · have hk1 : (k : Int) < 3 := by omega
      have hkt : k < want6.length := hlt; have hrun := run_want wr; have hka : Kept wr (wr.alloc (.cells (rowsOf prA want6).toArray 94)) := (Upd.refl _ wr).alloc _; obtain ⟨g', c', hv', -, -, s1, s2⟩ := OwnRows.get prA_size (want_rows wr) hkt; simp only [Value.slice.injEq, Option.some.injEq, Addr.mk.injEq] at hv'; obtain ⟨⟨rfl, -⟩, -, -⟩ := hv'; have hask := want6_ask hkt; have hsm := want6_small _ (List.getElem_mem hkt); generalize want6[k] = p at *; obtain ⟨x, y⟩ := p; simp only at hsm; have s3 : segV (wr.alloc (.cells (rowsOf prA want6).toArray 94)) ⟨wr.heap.size, k * 2, none⟩ 2 = #[.int .i64 (x : Int), .int .i64 (y : Int)] := s2; have HF := Lib.hid (hF.kept hka); have HK := Lib.hid (And.intro hlt (And.intro hask hsm)); clear hF hka hkt hlt hk s2 hask hsm; go_wp2_with fail; have hkp : Kept (wr.alloc (.cells (rowsOf prA want6).toArray 94)) ((wr.alloc (.cells (rowsOf prA want6).toArray 94)).alloc (.cells #[.int .i64 (x : Int), .int .i64 (y : Int)] 94)) := (Upd.refl _ _).alloc _; have HF2 := Lib.hid (HF.out.kept hkp); clear HF hkp hrun s1 s3; generalize (wr.alloc (.cells (rowsOf prA want6).toArray 94)).alloc (.cells #[.int .i64 (x : Int), .int .i64 (y : Int)] 94) = wx at *; have HG := law21_asks HF2.out.fet x y; rw [HSL.out.2, HK.out.2.1, decide_eq_true rfl] at HG; refine HG.mono ?_; clear HG; rintro e w11 ⟨rfl, hu11⟩; have HF3 := Lib.hid (HF2.out.kept hu11); clear HF2 hu11; go_wp2_with fail; refine (law21_six w11).mono ?_; rintro e w12 ⟨A12, rfl, l12, hl12, hlv12, hu12⟩; have hll : l12.length = 6 := by have := congrArg List.length hl12; simpa [six] using this
      have hFW := (HF3.out.kept hu12).swap (v' := .slice A12 6 6) (lv' := l12) (hlv12.low HF3.out.mad.ink.upd.size) (by rw [HSL.out.1]; exact hl12); rw [show Value.slice A12 6 6 = Value.slice A12 l12.length 6 by rw [hll]] at hFW; have HG := law21_answers 6 hFW; rw [hll, show secs l12 = six from hl12, HK.out.2.1, st6_taken HK.out.1, show (some (x, y)).isSome = true from rfl] at HG; have HL12 := Lib.hid (show secs l12 = six from hl12); clear HF3 hl12 hlv12 hu12 hll hFW; go_wp2_with fail; refine HG.mono ?_; clear HG; rintro e w13 ⟨rfl, ⟨L13, hF13, -⟩, -⟩; have HF13 := Lib.hid hF13; clear hF13; go_wp2
      go_roundw
      case rel => exact ⟨k + 1, L13, _, l12, by have := HK.out.1; omega, by show _ = _; go_num, HF13.out, HL12.out⟩
      case measure => have := HK.out.1; simp [intOf]; omega
    · obtain rfl : k = 3 := by omega
      have hk1 : ¬ ((3 : Nat) : Int) < 3 := by omega
      have HF := Lib.hid hF; have HG := fetch_Done hF.fet (by rw [HSL.out.2]; exact six_end.1); rw [HSL.out.2, six_end.2] at HG; clear hge hk hF; go_wp2_with fail; refine HG.mono ?_; clear HG; rintro e w11 ⟨v11, l11, rfl, hlv11, hs11, hu11⟩; obtain ⟨A11, c11, rfl⟩ := OwnRows.form hlv11.1; rw [List.length_map]; have hu := HF.out.mad.ink.upd.then hu11 (fun _ _ h => h); have HE := Lib.hid (And.intro hlv11 (And.intro hs11 (show Kept w w11 from hu))); rw [List.length_map] at HE; clear hlv11 hs11 hu11 hu HF; go_wp2_with fail; refine (law21_six w11).mono ?_; rintro e w12 ⟨A12, rfl, l12, hl12, hlv12, hu12⟩; have hll : l12.length = 6 := by have := congrArg List.length hl12; simpa [six] using this
      have hl11 : l11.length = 6 := by have := congrArg List.length HE.out.2.1; simpa [six] using this
      have hlv12' : OwnLv w12 w11.heap.size (.slice A12 l12.length 6) l12 := by rw [hll]; exact hlv12
      have HG := same_leaves c11 6 (HE.out.1.kept hu12).leaves hlv12'.leaves (by omega); rw [show secs l11 = six from HE.out.2.1, show secs l12 = six from hl12, decide_eq_true rfl, hll] at HG; have HU := Lib.hid (show Kept w w12 from HE.out.2.2.then hu12 (fun _ _ h => h)); clear hl12 hlv12 hlv12' hu12 hll hl11; go_wp2_with fail; refine HG.mono ?_; clear HG; rintro e w13 ⟨rfl, hu13⟩; have HZ := Lib.hid (show Kept w w13 from HU.out.then hu13 (fun _ _ h => h)); clear hu13; go_wp2
      go_ret
      exact ⟨rfl, HZ.out⟩
end Go.Proofs.YtepjbijhkkjbfaaGreat
namespace Go.Proofs.YtepjbijhkkjbfaaGreat
open Go.ChangeShapes Go.WideShapes Go.ChangeAt Go.RowKit
structure DeedV where
  is : Bool
  lv : Int
  pl : Int
  x : SlC
  D : List Dig
  y : SlC
  R : Bytes
structure DeedAt (W : World) (b off : Nat) (d : DeedV) : Prop where
  c0 : W.cell? ⟨b, off, none⟩ = some (.bool d.is)
  c1 : W.cell? ⟨b, off + 1, none⟩ = some (.int .i64 d.lv)
  c2 : W.cell? ⟨b, off + 2, none⟩ = some (.int .i64 d.pl)
  c3 : W.cell? ⟨b, off + 3, none⟩ = some (SlC.v d.x)
  c4 : W.cell? ⟨b, off + 4, none⟩ = some (SlC.v d.y)
  ds : Digs W d.x.A d.D ∧ d.x.n = d.D.length
  bs : LeafAt W d.y d.R ∧ d.R.length ≤ 140737488351232
theorem DeedAt.kept {W W' : World} {b off : Nat} {d : DeedV} (h : DeedAt W b off d) (hu : Kept W W') : DeedAt W' b off d :=
  ⟨hu.cell h.c0 id, hu.cell h.c1 id, hu.cell h.c2 id, hu.cell h.c3 id, hu.cell h.c4 id, ⟨h.ds.1.kept hu, h.ds.2⟩, ⟨h.bs.1.kept hu, h.bs.2⟩⟩
def DeedsAt (W : World) (A : Option Addr) (l : List DeedV) : Prop := ∀ i (hi : i < l.length), ∃ b off, A = some ⟨b, off, none⟩ ∧ DeedAt W b (off + i * 5) l[i]
theorem DeedsAt.kept {W W' : World} {A : Option Addr} {l : List DeedV} (h : DeedsAt W A l) (hu : Kept W W') : DeedsAt W' A l := fun i hi => by
  obtain ⟨b, off, h1, h2⟩ := h i hi; exact ⟨b, off, h1, h2.kept hu⟩
section
variable {H : Type} {enc : TypeId × Value → H} {W : World}
theorem deed_cells : Tryz.prog.cellsOf 47 = 5 := by kernel_rfl
theorem bool_cells : Tryz.prog.cellsOf 4 = 1 := by kernel_rfl
theorem ds_cells1 : Tryz.prog.cellsOf 45 = 1 := by kernel_rfl
set_option maxRecDepth 100000 in
theorem open_deeds {cs : List Value} (h : ReadsAs enc Tryz.prog W 27 cs) : ∃ A c l, cs = [.slice A (List.length l) c] ∧ DeedsAt W A l ∧ l.length ≤ 140737488351232 := by
  obtain ⟨A, n, c, rfl, hle, hmax, hb, hi⟩ := h.slice Tryz.underlying27 deed_cells (by omega); have hx : ∀ i, i < n → ∃ d : DeedV, ∃ b off, A = some ⟨b, off, none⟩ ∧ DeedAt W b (off + i * 5) d := by
    intro i hin; obtain ⟨b, off, cs', hA, hl', hcell, hr⟩ := hi i hin; obtain ⟨hl, hf⟩ := hr.struct Tryz.underlying47; rw [deed_cells] at hl
    match cs', hl with
    | [c0, c1, c2, c3, c4], _ =>
      have e0 : ReadsAs enc Tryz.prog W 4 (([c0, c1, c2, c3, c4].drop 0).take (Tryz.prog.cellsOf 4)) := hf 0 _ rfl; have e1 : ReadsAs enc Tryz.prog W 3 (([c0, c1, c2, c3, c4].drop 1).take (Tryz.prog.cellsOf 3)) := hf 1 _ rfl; have e2 : ReadsAs enc Tryz.prog W 3 (([c0, c1, c2, c3, c4].drop 2).take (Tryz.prog.cellsOf 3)) := hf 2 _ rfl; have e3 : ReadsAs enc Tryz.prog W 45 (([c0, c1, c2, c3, c4].drop 3).take (Tryz.prog.cellsOf 45)) := hf 3 _ rfl; have e4 : ReadsAs enc Tryz.prog W 42 (([c0, c1, c2, c3, c4].drop 4).take (Tryz.prog.cellsOf 42)) := hf 4 _ rfl; rw [bool_cells] at e0; rw [int_cells] at e1 e2; rw [ds_cells1] at e3; rw [bs_cells] at e4; obtain ⟨z, h0⟩ := e0.bool Tryz.underlying4; obtain ⟨lv, h1, w1⟩ := e1.int Tryz.underlying3; obtain ⟨pl, h2, w2⟩ := e2.int Tryz.underlying3; obtain ⟨A3, k3, D, h3, hD, _⟩ := open_digs e3; obtain ⟨y, R, h4, hy, hRl⟩ := open_bytes e4; simp only [List.take_succ_cons, List.take_zero, List.drop_succ_cons, List.drop_zero, List.cons.injEq, and_true] at h0 h1 h2 h3 h4; subst h0 h1 h2 h3 h4; exact ⟨⟨z, lv, pl, ⟨A3, D.length, k3⟩, D, y, R⟩, b, off, hA, by simpa using hcell 0 (by omega), by simpa using hcell 1 (by omega), by simpa using hcell 2 (by omega), hcell 3 (by omega), by simpa using hcell 4 (by omega), ⟨hD, rfl⟩, ⟨hy, hRl⟩⟩
  obtain ⟨l, hl, hp⟩ := list_of n hx; subst hl; have hbb : Tryz.prog.bytesOf 47 = 72 := by kernel_rfl
  exact ⟨A, c, l, rfl, hp, by rw [hbb] at hb; unfold reachBytes at hb; omega⟩
end
variable {Tu : Nat → Prop}
end Go.Proofs.YtepjbijhkkjbfaaGreat
