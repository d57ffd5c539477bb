/- The texts of this hand-in, merged: GetA GetB. -/
import Derived.Test.YtnncpjekcljfbaaSetP
import Derived.Test.YtnncpjekcljfbaaSetF
/- The chapter's fetch comes through. -/
namespace Go.Proofs.Ytnncpjekcljfbaa
open Go.RowKit

attribute [local irreducible] wpOrd
set_option maxHeartbeats 800000 in
set_option maxRecDepth 20000 in
theorem law21_six (w : World) : Calls Try.prog 74 #[] w fun e W => ∃ A, e = .returned (.slice A 6 6) ∧ ∃ l, l.map (·.2) = six ∧ OwnLv W w.heap.size (.slice A 6 6) l ∧ Kept w W := by
  obtain ⟨v1, w1, hbs1, hB1, hk1⟩ := run_bs1 1 w
  change (sliceRow 35 1 #[(0, .int .u8 1)]).run Try.prog w = _ at hbs1
  obtain ⟨A1, c1, rfl, hc1, hb1⟩ := byt_one hB1
  obtain ⟨v2, w2, hbs2, hB2, hk2⟩ := run_bs1 2 w1
  change (sliceRow 35 1 #[(0, .int .u8 2)]).run Try.prog w1 = _ at hbs2
  obtain ⟨A2, c2, rfl, hc2, hb2⟩ := byt_one hB2
  obtain ⟨v3, w3, hbs3, hB3, hk3⟩ := run_bs1 3 w2
  change (sliceRow 35 1 #[(0, .int .u8 3)]).run Try.prog w2 = _ at hbs3
  obtain ⟨A3, c3, rfl, hc3, hb3⟩ := byt_one hB3
  obtain ⟨v4, w4, hbs4, hB4, hk4⟩ := run_bs1 4 w3
  change (sliceRow 35 1 #[(0, .int .u8 4)]).run Try.prog w3 = _ at hbs4
  obtain ⟨A4, c4, rfl, hc4, hb4⟩ := byt_one hB4
  obtain ⟨v5, w5, hbs5, hB5, hk5⟩ := run_bs1 5 w4
  change (sliceRow 35 1 #[(0, .int .u8 5)]).run Try.prog w4 = _ at hbs5
  obtain ⟨A5, c5, rfl, hc5, hb5⟩ := byt_one hB5
  obtain ⟨v6, w6, hbs6, hB6, hk6⟩ := run_bs1 6 w5
  change (sliceRow 35 1 #[(0, .int .u8 6)]).run Try.prog w5 = _ at hbs6
  obtain ⟨A6, c6, rfl, hc6, hb6⟩ := byt_one hB6
  have hsl := run_six_bsl A1 A2 A3 A4 A5 A6 c1 c2 c3 c4 c5 c6 w6
  have hk7 : Kept w6 (w6.alloc (.cells (sixV A1 A2 A3 A4 A5 A6 c1 c2 c3 c4 c5 c6) 35)) := (Upd.refl _ w6).alloc _
  have t6 := hk6.then hk7 (fun _ _ h => h)
  have t5 := hk5.then t6 (fun _ _ h => h)
  have t4 := hk4.then t5 (fun _ _ h => h)
  have t3 := hk3.then t4 (fun _ _ h => h)
  have t2 := hk2.then t3 (fun _ _ h => h)
  have t1 := hk1.then t2 (fun _ _ h => h)
  have s1 := hk1.size
  have s2 := hk2.size
  have s3 := hk3.size
  have s4 := hk4.size
  have s5 := hk5.size
  have s6 := hk6.size
  have HF : Hid (OwnLv (w6.alloc (.cells (sixV A1 A2 A3 A4 A5 A6 c1 c2 c3 c4 c5 c6) 35)) w.heap.size (.slice (some ⟨w6.heap.size, 0, none⟩) 6 6) [(⟨A1, 1, c1⟩, [1]), (⟨A2, 1, c2⟩, [2]), (⟨A3, 1, c3⟩, [3]), (⟨A4, 1, c4⟩, [4]), (⟨A5, 1, c5⟩, [5]), (⟨A6, 1, c6⟩, [6])] ∧ Kept w (w6.alloc (.cells (sixV A1 A2 A3 A4 A5 A6 c1 c2 c3 c4 c5 c6) 35))) := by
    refine ⟨⟨⟨rfl, .inr ⟨w6.heap.size, 6, sixV A1 A2 A3 A4 A5 A6 c1 c2 c3 c4 c5 c6, rfl, by omega, heap_alloc_new w6 _, Nat.le_refl _, by unfold maxLen; omega, rfl, rfl⟩⟩, fun p hp => ?_⟩, t1⟩
    simp only [List.mem_cons, List.not_mem_nil, or_false] at hp
    rcases hp with rfl | rfl | rfl | rfl | rfl | rfl
    · exact ⟨(hB1.kept t2), by simp⟩
    · exact ⟨(hB2.kept t3).low (by omega), by simp⟩
    · exact ⟨(hB3.kept t4).low (by omega), by simp⟩
    · exact ⟨(hB4.kept t5).low (by omega), by simp⟩
    · exact ⟨(hB5.kept t6).low (by omega), by simp⟩
    · exact ⟨(hB6.kept hk7).low (by omega), by simp⟩
  clear hB1 hB2 hB3 hB4 hB5 hB6 hk1 hk2 hk3 hk4 hk5 hk6 hk7 t1 t2 t3 t4 t5 t6 s1 s2 s3 s4 s5 s6 hb1 hb2 hb3 hb4 hb5 hb6
  go_enter Try.func74, Try.ntmps74
  go_wp2
  go_ret
  exact ⟨_, rfl, _, rfl, HF.out⟩

def prA (p : Nat × Nat) : Array Value := #[.int .i64 p.1, .int .i64 p.2]
@[simp, go_sem] theorem pr_one (x y : Int) : oneB #[Value.int .i64 x, Value.int .i64 y] = true := by unfold oneB; exact (by rfl : _ = _)
theorem prA_size (p : Nat × Nat) : (prA p).size = 2 := rfl
@[go_sem ↓] theorem exec_build_pr (ρ : Operand → Value) (dst : Option Tmp) (parts : Array (Nat × Operand)) (ty : TypeId) (pos : String) (after : Array Edge) (guard : Option (Nat × Bool)) :
    execOp ρ ⟨dst, .build 60 parts, ty, pos, after, guard⟩ = buildRow 60 (parts.map fun (i, x) => (i, ρ x)) := rfl
@[go_sem] theorem run_build_pr (x y : Int) (W : World) : (buildRow 60 #[(0, .int .i64 x), (1, .int .i64 y)]).run Try.prog W = .ok (.value (.agg #[.int .i64 x, .int .i64 y])) W := by
  have H := run_build (P := Try.prog) W 60 #[(0, .int .i64 x), (1, .int .i64 y)] #[.int .i64 x, .int .i64 y] (by kernel_rfl)
  simp [buildRow, H, Result.andThen]
@[go_sem ↓] theorem exec_want (ρ : Operand → Value) (dst : Option Tmp) (parts : Array (Nat × Operand)) (ty : TypeId) (pos : String) (after : Array Edge) (guard : Option (Nat × Bool)) :
    execOp ρ ⟨dst, .buildSlice 150 3 parts, ty, pos, after, guard⟩ = sliceRow 150 3 (parts.map fun (i, x) => (i, ρ x)) := rfl
theorem pr_info : (Try.prog.info? 60).map (fun i => (i.size, i.bytes, i.zero)) = some (2, 16, some (.agg #[.int .i64 0, .int .i64 0])) := by kernel_rfl
theorem run_want (W : World) : (sliceRow 150 3 #[(0, .agg #[.int .i64 2, .int .i64 0]), (1, .agg #[.int .i64 1, .int .i64 1]), (2, .agg #[.int .i64 0, .int .i64 4])]).run Try.prog W = .ok (.value (.slice (some ⟨W.heap.size, 0, none⟩) 3 3)) (W.alloc (.cells (rowsOf prA want6).toArray 60)) := by
  obtain ⟨i, hi, h2⟩ := Option.map_eq_some_iff.1 pr_info
  simp only [Prod.mk.injEq] at h2
  have h := run_buildSlice (P := Try.prog) W 150 60 3 #[(0, .agg #[.int .i64 2, .int .i64 0]), (1, .agg #[.int .i64 1, .int .i64 1]), (2, .agg #[.int .i64 0, .int .i64 4])] (rowsOf prA want6).toArray i (.agg #[.int .i64 0, .int .i64 0]) Try.underlying150 hi h2.2.2 (by rw [h2.1]; omega) (by rw [h2.1]; decide) (by
    rw [h2.1]
    kernel_rfl)
  simp only [sliceRow, Sem.run_bind, h, Result.andThen_ok, Sem.run_pure]
theorem want_rows (W : World) : OwnRows prA 2 (W.alloc (.cells (rowsOf prA want6).toArray 60)) W.heap.size 60 (.slice (some ⟨W.heap.size, 0, none⟩) 3 3) want6 :=
  ⟨rfl, .inr ⟨W.heap.size, 3, (rowsOf prA want6).toArray, rfl, Nat.le_refl _, heap_alloc_new W _, Nat.le_refl _, by unfold maxLen; omega, rfl, rfl⟩⟩

/-- one of the rows of bytes is another -/
theorem OwnLv.put {W : World} {B : Nat} {v : Value} {l : List (SlC × Bytes)} (h : OwnLv W B v l) {k : Nat} (hk : k < l.length) {x : SlC} {R : Bytes} (hx : OwnB W B x.v R) (hR : R.length ≤ 140737488351232) :
    ∃ g, v.ownBlock = some g ∧ OwnLv (W.setCell ⟨g, k, none⟩ (.slice x.A x.n x.c)) B v (l.set k (x, R)) ∧ W.frozen? ⟨g, k, none⟩ = false ∧ ∃ y, W.cell? ⟨g, k, none⟩ = some y := by
  obtain ⟨g, hg, ho, hf⟩ := own_setCell h.1 (k := k) (by rw [List.length_map]; exact hk) x
  obtain ⟨g', c', hv, -, -, hc⟩ := OwnS.cell h.1 (k := k) (by rw [List.length_map]; exact hk)
  have hgg : g' = g := by rw [hv] at hg; exact Option.some.inj hg
  subst hgg
  obtain ⟨cur, hcur⟩ := own_cells h.1 hg
  have hu : Upd (fun j => j = g') W (W.setCell ⟨g', k, none⟩ (.slice x.A x.n x.c)) := (Upd.refl _ _).setCell (p := ⟨g', k, none⟩) _ fun _ => rfl
  have key : ∀ {y : Value} {S : Bytes}, OwnB W B y S → OwnB (W.setCell ⟨g', k, none⟩ (.slice x.A x.n x.c)) B y S := fun hy => hy.upd hu fun j e1 e2 => by
    obtain ⟨cur2, hc2⟩ := hy.block e1
    exact cells_ne hc2 hcur (by decide) e2
  refine ⟨g', hg, ⟨by rw [List.map_set]; exact ho, fun p hp => ?_⟩, hf, _, hc⟩
  rcases List.mem_or_eq_of_mem_set hp with h1 | h1
  · exact ⟨key (h.2 p h1).1, (h.2 p h1).2⟩
  · rw [h1]; exact ⟨key hx, hR⟩
/-- the same leaves in other rows -/
theorem FW.swap {w0 W : World} {b r q lo hi t : Nat} {L : List Bytes} {v v' : Value} {lv lv' : List (SlC × Bytes)} {B f m1 m2 gs cs : Nat} {root : Dig} {O : Option (List Bytes)} {s : KM × BM} {hv ov : Value} (h : FW w0 W b r q lo hi t L v lv B f m1 m2 root O s gs cs hv ov) (ho : OwnLv W w0.heap.size v' lv') (hs : secs lv' = secs lv) : FW w0 W b r q lo hi t L v' lv' B f m1 m2 root O s gs cs hv ov := by
  have hl : lv'.length = lv.length := by have := congrArg List.length hs; simpa using this
  obtain ⟨hm, hf, hB⟩ := h
  exact ⟨⟨hm.ink, by rw [hs]; exact hm.tree, hm.lo, by rw [hs]; exact hm.noted, ho, by rw [hl]; exact hm.ne, by rw [hl]; exact hm.le, by rw [hs]; exact hm.len⟩, by rw [hl]; exact hf, hB⟩
theorem OwnLv.low {W : World} {B B' : Nat} {v : Value} {l : List (SlC × Bytes)} (h : OwnLv W B' v l) (hB : B ≤ B') : OwnLv W B v l := ⟨own_base h.1 hB, fun p hp => ⟨(h.2 p hp).1.low hB, (h.2 p hp).2⟩⟩

set_option maxHeartbeats 4000000 in
set_option maxRecDepth 20000 in
theorem law21_works (w : World) : Calls Try.prog 63 #[] w fun e W => e = .returned (.bool true) ∧ Kept w W := by
  have hnot : ∀ (x : Bool) (w : World), (Op.unary .not (.bool x)).run Try.prog w = .ok (.bool (!x)) w := fun _ _ => rfl
  go_enter Try.func63, Try.ntmps63
  go_wp2_with fail
  refine (law_book w).mono ?_
  rintro e w1 ⟨b, r, q, rfl, hI⟩
  have HI := Lib.hid hI
  clear hI
  go_wp2_with fail
  refine (law21_six w1).mono ?_
  rintro e w2 ⟨A, rfl, l, hl, hlv, hu2⟩
  have hl6 : l.length = 6 := by have := congrArg List.length hl; simpa [six] using this
  have HG := law21_made (HI.out.kept hu2) (l := l) (A := A) 6 (by rw [hl6]; exact hlv.low HI.out.upd.size) (by omega) (by omega) (by rw [show secs l = six from hl]; exact six_len)
  rw [hl6] at HG
  have HL := Lib.hid (And.intro hl hl6)
  clear HI hl hlv hu2 hl6
  go_wp2_with fail
  refine HG.mono ?_
  clear HG
  rintro e w3 ⟨t, rfl, lo, hi, L, hM, -, -⟩
  have HM := Lib.hid hM
  clear hM
  go_wp2_with fail
  have HG := tree_Root HM.out.tree
  obtain ⟨rt, hrt⟩ : ∃ rt, rt = rootM shaM ((secs l).map (leafM shaM)) := ⟨_, rfl⟩
  rw [← hrt] at HG
  have hrt2 : rt = digL six 2 0 := by
    rw [hrt, show secs l = six from HL.out.1, ← digL_root (show 1 ≤ six.length by decide), show six.length = 6 from rfl, depthM6]
  have HRT := Lib.hid hrt2
  clear hrt hrt2
  refine HG.mono ?_
  clear HG
  rintro e w4 ⟨rfl, hu4⟩
  have hd5 : Blk (w4.alloc (.cells (dA rt) 46)) w4.heap.size 46 (encB (rt).1) := Blk.new w4 _ _
  have hk5 : Kept w4 (w4.alloc (.cells (dA rt) 46)) := (Upd.refl _ w4).alloc _
  have H5 := Lib.hid (And.intro ((HM.out.kept hu4).kept hk5) hd5)
  clear HM hu4 hk5 hd5
  go_wp2_with fail
  generalize w4.heap.size = g5 at *
  generalize w4.alloc (.cells (dA rt) 46) = w5 at *
  refine (law21_six w5).mono ?_
  rintro e w6 ⟨A6, rfl, l6, hl6, hlv6, hu6⟩
  have hll : l6.length = 6 := by have := congrArg List.length hl6; simpa [six] using this
  obtain ⟨v7, w7, hbs7, hB7, hk7⟩ := run_bs1 9 w6
  change (sliceRow 35 1 #[(0, .int .u8 9)]).run Try.prog w6 = _ at hbs7
  obtain ⟨A7, c7, rfl, hc7, hb7⟩ := byt_one hB7
  have hlv7 := hlv6.kept hk7
  have hk57 : Kept w5 w7 := hu6.then hk7 (fun _ _ h => h)
  obtain ⟨g6, hg6, ho8, hf6, y6, hc6⟩ := hlv7.put (k := 4) (by omega) (x := ⟨A7, 1, c7⟩) (R := [9]) (hB7.low hu6.size) (by simp)
  obtain ⟨g6', c6', hv6, -, -, -⟩ := OwnS.cell hlv7.1 (k := 0) (by rw [List.length_map]; omega)
  rw [List.length_map, hll] at hv6
  simp only [Value.slice.injEq] at hv6
  obtain ⟨rfl, -, rfl⟩ := hv6
  have hgg : g6' = g6 := Option.some.inj hg6
  subst hgg
  have hg6b := (World.ownsRow.lt hlv7.1 g6' rfl).1
  have hk8 : Kept w5 (w7.setCell ⟨g6', 4, none⟩ (.slice A7 1 c7)) := hk57.setCell (p := ⟨g6', 4, none⟩) _ (fun h => by have h2 : g6' < w5.heap.size := h; omega)
  have hs8 : secs (l6.set 4 (⟨A7, 1, c7⟩, [9])) = six9 := by
    rw [secs, List.map_set, show l6.map (·.2) = six from hl6]; rfl
  have hn8 : (l6.set 4 ((⟨A7, 1, c7⟩ : SlC), ([9] : Bytes))).length = 6 := by rw [List.length_set]; exact hll
  have H8 := Lib.hid (And.intro (H5.out.1.kept hk8) (And.intro (H5.out.2.kept hk8) (And.intro ho8 (And.intro hs8 hn8))))
  clear H5 hl6 hlv6 hu6 hll hlv7 hk57 hg6 ho8 hg6b hk8 hs8 hn8 hB7 hk7 hc7 hb7
  obtain ⟨p1, p2⟩ := dig_at H8.out.2.1
  have HG := fetch_Begin1 (l := l6.set 4 (⟨A7, 1, c7⟩, [9])) (A := some ⟨g6', 0, none⟩) H8.out.1.ink.book rt 6 (by omega) (by omega) 6 H8.out.2.2.2.2 (fun W hW => (H8.out.2.2.1.book H8.out.1.ink.book hW).leaves) (by
    have h1 := H8.out.2.2.2.1
    intro p hp
    have h2 : p.2 ∈ six9 := by rw [← h1]; exact List.mem_map_of_mem hp
    simp only [six9, List.mem_cons, List.not_mem_nil, or_false] at h2
    rcases h2 with h | h | h | h | h | h <;> rw [h] <;> simp)
  rw [H8.out.2.2.2.2, H8.out.2.2.2.1] at HG
  go_wp2_with fail
  clear hf6 hc6 hbs7
  generalize w7.setCell ⟨g6', 4, none⟩ (.slice A7 1 c7) = w8 at *
  refine HG.mono ?_
  clear HG
  rintro e w9 ⟨f, rfl, ⟨B, m1, m2, gs, cs, hv, ov, hB, hF⟩, ⟨L9, hb9, hs9, -⟩, hu9⟩
  have hst : begS 6 (some six9) rt = st6 0 := by rw [HRT.out]; rfl
  rw [hst] at hF
  have H9 := Lib.hid (show FW w w9 b r q lo hi t L9 (.slice A 6 6) l B f m1 m2 rt (some six9) (st6 0) gs cs hv ov from ⟨H8.out.1.to hb9 hs9 hu9, by rw [HL.out.2]; exact hF, Nat.le_trans H8.out.1.ink.upd.size hB⟩)
  clear H8 hb9 hs9 hu9 hF hB hst p1 p2
  have HG := law21_asks H9.out.fet 2 0
  rw [HL.out.2, show askM 6 (st6 0) = some (2, 0) from (six_0 st6_six).2.2.1, decide_eq_true rfl] at HG
  change Calls Try.prog _ #[_, .int .i64 2, .int .i64 0] _ _ at HG
  go_wp2_with fail
  refine HG.mono ?_
  clear HG
  rintro e w10 ⟨rfl, hu10⟩
  have H10 := Lib.hid (H9.out.kept hu10)
  clear H9 hu10
  go_wp2_with fail
  go_loopw [8] (fun u1 wr => ∃ (k : Nat) (L' : List Bytes) (v' : Value) (l' : List (SlC × Bytes)), k ≤ 3 ∧ u1 = .int .i64 k ∧ FW w wr b r q lo hi t L' v' l' B f m1 m2 rt (some six9) (st6 k) gs cs hv ov ∧ secs l' = six) (fun u1 _ => 2000 - (intOf u1).toNat)
  case atStart => exact ⟨0, L9, _, _, by omega, rfl, H10.out, HL.out.1⟩
  case round =>
    clear H10
    obtain ⟨k, L', v', l', hk, rfl, hF, hsl⟩ := hrel
    have HSL := Lib.hid (And.intro hsl (show l'.length = 6 by have := congrArg List.length hsl; simpa [six] using this))
    clear hsl
    rcases Nat.lt_or_ge k 3 with hlt | hge
    · have hk1 : (k : Int) < 3 := by omega
      have hkt : k < want6.length := hlt
      have hrun := run_want wr
      have hka : Kept wr (wr.alloc (.cells (rowsOf prA want6).toArray 60)) := (Upd.refl _ wr).alloc _
      obtain ⟨g', c', hv', -, -, s1, s2⟩ := OwnRows.get prA_size (want_rows wr) hkt
      simp only [Value.slice.injEq, Option.some.injEq, Addr.mk.injEq] at hv'
      obtain ⟨⟨rfl, -⟩, -, -⟩ := hv'
      have hask := want6_ask hkt
      have hsm := want6_small _ (List.getElem_mem hkt)
      generalize want6[k] = p at *
      obtain ⟨x, y⟩ := p
      simp only at hsm
      have s3 : segV (wr.alloc (.cells (rowsOf prA want6).toArray 60)) ⟨wr.heap.size, k * 2, none⟩ 2 = #[.int .i64 (x : Int), .int .i64 (y : Int)] := s2
      have HF := Lib.hid (hF.kept hka)
      have HK := Lib.hid (And.intro hlt (And.intro hask hsm))
      clear hF hka hkt hlt hk s2 hask hsm
      go_wp2_with fail
      have hkp : Kept (wr.alloc (.cells (rowsOf prA want6).toArray 60)) ((wr.alloc (.cells (rowsOf prA want6).toArray 60)).alloc (.cells #[.int .i64 (x : Int), .int .i64 (y : Int)] 60)) := (Upd.refl _ _).alloc _
      have HF2 := Lib.hid (HF.out.kept hkp)
      clear HF hkp hrun s1 s3
      generalize (wr.alloc (.cells (rowsOf prA want6).toArray 60)).alloc (.cells #[.int .i64 (x : Int), .int .i64 (y : Int)] 60) = wx at *
      have HG := law21_asks HF2.out.fet x y
      rw [HSL.out.2, HK.out.2.1, decide_eq_true rfl] at HG
      refine HG.mono ?_
      clear HG
      rintro e w11 ⟨rfl, hu11⟩
      have HF3 := Lib.hid (HF2.out.kept hu11)
      clear HF2 hu11
      go_wp2_with fail
      refine (law21_six w11).mono ?_
      rintro e w12 ⟨A12, rfl, l12, hl12, hlv12, hu12⟩
      have hll : l12.length = 6 := by have := congrArg List.length hl12; simpa [six] using this
      have hFW := (HF3.out.kept hu12).swap (v' := .slice A12 6 6) (lv' := l12) (hlv12.low HF3.out.mad.ink.upd.size) (by rw [HSL.out.1]; exact hl12)
      rw [show Value.slice A12 6 6 = Value.slice A12 l12.length 6 by rw [hll]] at hFW
      have HG := law21_answers 6 hFW
      rw [hll, show secs l12 = six from hl12, HK.out.2.1, st6_taken HK.out.1, show (some (x, y)).isSome = true from rfl] at HG
      have HL12 := Lib.hid (show secs l12 = six from hl12)
      clear HF3 hl12 hlv12 hu12 hll hFW
      go_wp2_with fail
      refine HG.mono ?_
      clear HG
      rintro e w13 ⟨rfl, ⟨L13, hF13, -⟩, -⟩
      have HF13 := Lib.hid hF13
      clear hF13
      go_wp2
      go_roundw
      case rel => exact ⟨k + 1, L13, _, l12, by have := HK.out.1; omega, by show _ = _; go_num, HF13.out, HL12.out⟩
      case measure => have := HK.out.1; simp [intOf]; omega
    · obtain rfl : k = 3 := by omega
      have hk1 : ¬ ((3 : Nat) : Int) < 3 := by omega
      have HF := Lib.hid hF
      have HG := fetch_Done hF.fet (by rw [HSL.out.2]; exact six_end.1)
      rw [HSL.out.2, six_end.2] at HG
      clear hge hk hF
      go_wp2_with fail
      refine HG.mono ?_
      clear HG
      rintro e w11 ⟨v11, l11, rfl, hlv11, hs11, hu11⟩
      obtain ⟨A11, c11, rfl⟩ := OwnRows.form hlv11.1
      rw [List.length_map]
      have hu := HF.out.mad.ink.upd.then hu11 (fun _ _ h => h)
      have HE := Lib.hid (And.intro hlv11 (And.intro hs11 (show Kept w w11 from hu)))
      rw [List.length_map] at HE
      clear hlv11 hs11 hu11 hu HF
      go_wp2_with fail
      refine (law21_six w11).mono ?_
      rintro e w12 ⟨A12, rfl, l12, hl12, hlv12, hu12⟩
      have hll : l12.length = 6 := by have := congrArg List.length hl12; simpa [six] using this
      have hl11 : l11.length = 6 := by have := congrArg List.length HE.out.2.1; simpa [six] using this
      have hlv12' : OwnLv w12 w11.heap.size (.slice A12 l12.length 6) l12 := by rw [hll]; exact hlv12
      have HG := same_leaves c11 6 (HE.out.1.kept hu12).leaves hlv12'.leaves (by omega)
      rw [show secs l11 = six from HE.out.2.1, show secs l12 = six from hl12, decide_eq_true rfl, hll] at HG
      have HU := Lib.hid (show Kept w w12 from HE.out.2.2.then hu12 (fun _ _ h => h))
      clear hl12 hlv12 hlv12' hu12 hll hl11
      go_wp2_with fail
      refine HG.mono ?_
      clear HG
      rintro e w13 ⟨rfl, hu13⟩
      have HZ := Lib.hid (show Kept w w13 from HU.out.then hu13 (fun _ _ h => h))
      clear hu13
      go_wp2
      go_ret
      exact ⟨rfl, HZ.out⟩
end Go.Proofs.Ytnncpjekcljfbaa
/- A fetch, as functions: each answer closes one place, if nothing was there already. No program is named. -/
namespace Go.Proofs.Ytnncpjekcljfbaa

theorem partsK_none (n l p : Nat) (D : List Dig) (s : KM × BM) : ∀ k, (partsK n none l p D k s).2 = s.2 ∧ ∀ l' p', (∀ j, j < k → ¬ (l' = l ∧ p' = 4 * p + j)) → (partsK n none l p D k s).1 l' p' = s.1 l' p'
  | 0 => ⟨rfl, fun _ _ _ => rfl⟩
  | k + 1 => by
    obtain ⟨h1, h2⟩ := partsK_none n l p D s k
    rw [partsK_succ, learnM_none]
    refine ⟨h1, fun l' p' h => ?_⟩
    dsimp only
    rw [putK_ne _ _ (h k (by omega))]
    exact h2 l' p' fun j hj => h j (by omega)
section
variable {n : Nat} {s : KM × BM} {ls : List Bytes}
theorem parts_exact {l p : Nat} {D : List Dig} (hp : p < sizeL n (l + 1)) : ∀ x, x ≠ (l + 1, p) → closedB (partsK n none l p D (kidsM n l p) s) x = closedB s x := by
  obtain ⟨h1, h2⟩ := partsK_none n l p D s (kidsM n l p)
  rintro ⟨l', p'⟩ hx
  cases l' with
  | zero => show (_ : Option Bytes).isSome = _; rw [h1]; rfl
  | succ l' =>
    show ((partsK n none l p D (kidsM n l p) s).1 l' (4 * p')).isSome = (s.1 l' (4 * p')).isSome
    rw [h2]
    rintro j hj ⟨e1, e2⟩
    have := (kidsM_pos hp).2.1
    exact hx (by rw [e1, show p' = p by omega])
theorem ans_exact (h : Good ls.length s) (ha : (askM ls.length s).isSome = true) (ht : ansT s ls = true) : openC ls.length (ansS none s ls) + 1 = openC ls.length s := by
  cases ha' : askM ls.length s with
  | none => rw [ha'] at ha; exact absurd ha (by simp)
  | some x =>
    obtain ⟨l, p⟩ := x
    have hk := askM_lacks ha'
    obtain ⟨hl, hp, -, -⟩ := askM_some ha'
    cases l with
    | zero =>
      obtain ⟨e1, e2⟩ := ans_leaf (O := none) ha'
      rw [e1, decide_eq_true_eq] at ht
      obtain ⟨p', e3, -, -, -, -, e⟩ := leafE_zero ht
      obtain rfl : p' = p := by omega
      rw [e2, e]
      refine openC_eq ?_ hl hp (lacks_open hk) (by show (putM s.2 p' _ p').isSome = true; unfold putM; rw [if_pos rfl]; rfl)
      rintro ⟨l', q⟩ hx
      cases l' with
      | zero =>
        show (putM s.2 p' _ q).isSome = (s.2 q).isSome
        unfold putM
        rw [if_neg (fun e => hx (by rw [e]))]
      | succ l' => rfl
    | succ l =>
      obtain ⟨e1, e2⟩ := ans_parts (O := none) ha'
      rw [e1, decide_eq_true_eq] at ht
      obtain ⟨l', p', h1, h2, hl', hp', -, -, -, e⟩ := partsE_zero (O := none) ht
      obtain rfl : l' = l := by omega
      obtain rfl : p' = p := by omega
      rw [e2, e]
      exact openC_eq (parts_exact hp) hl hp (lacks_open hk) (parts_close hl hp h)
theorem open_beg (_ : 1 ≤ n) (root : Dig) : openC n (begS n none root) = totL n (depthM n) := by
  rw [← placesM_length]
  unfold openC
  rw [List.countP_eq_length]
  rintro ⟨l, p⟩ hx
  obtain ⟨hl, hp⟩ := mem_placesM.1 hx
  have hb : begS n none root = (putK (fun _ _ => none) (depthM n - 1) 0 root, fun _ => none) := learnM_none _ _ _ _ _
  rw [hb]
  cases l with
  | zero => rfl
  | succ l =>
    show (!(putK (fun _ _ => none) (depthM n - 1) 0 root l (4 * p)).isSome) = true
    rw [putK_ne _ _ (by omega)]; rfl
theorem totL_mono (n : Nat) {k m : Nat} (h : k ≤ m) : totL n k ≤ totL n m := by
  induction m with
  | zero => obtain rfl : k = 0 := by omega
            exact Nat.le_refl _
  | succ m ih =>
    rcases Nat.lt_or_ge k (m + 1) with h1 | h1
    · rw [totL_succ]; have := ih (by omega); omega
    · obtain rfl : k = m + 1 := by omega
      exact Nat.le_refl _
/-- if something is open, something is asked -/
theorem ask_of_open (h : Good n s) (hn : 1 ≤ n) (ho : 0 < openC n s) : (askM n s).isSome = true := by
  cases ha : askM n s with
  | some x => rfl
  | none =>
    exfalso
    have h1 : openC n s = 0 := by
      unfold openC
      rw [List.countP_eq_zero]
      rintro ⟨l, p⟩ hx
      obtain ⟨hl, hp⟩ := mem_placesM.1 hx
      have hk := none_known h.sh h.top hn ha (depthM n - 1 - l) (by omega) p (by rw [show depthM n - 1 - (depthM n - 1 - l) = l by omega]; exact hp)
      rw [show depthM n - 1 - (depthM n - 1 - l) = l by omega] at hk
      have h2 := askL_eq_none (askD_none ha l hl) hp
      rw [lacks_closed, hk] at h2
      simpa using h2
    omega
end
end Go.Proofs.Ytnncpjekcljfbaa
