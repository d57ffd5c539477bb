/- Leaves cut; bytes compared; a row of leaves. -/
import Derived.Test.YtjimamgghkgdeaaTreeP
namespace Go.Proofs.Ytjimamgghkgdeaa
open Go.RowKit

attribute [local irreducible] wpOrd
theorem Byt.get {W : World} {A : Option Addr} {R : Bytes} (h : Byt W A R) {k : Nat} (hk : k < R.length) : ∃ b off, A = some ⟨b, off, none⟩ ∧ W.cell? ⟨b, off + k, none⟩ = some (.int .u8 (R[k].toNat : Int)) := by
  rcases h with rfl | ⟨b, off, rfl, h⟩
  · simp at hk
  · exact ⟨b, off, rfl, h k _ (by rw [encB, List.getElem?_map, List.getElem?_eq_getElem hk]; rfl)⟩
theorem u8_inj {a b : UInt8} (h : (a.toNat : Int) = (b.toNat : Int)) : a = b := by
  have : a.toNat = b.toNat := by omega
  exact UInt8.toNat_inj.1 this

set_option maxHeartbeats 800000 in
set_option maxRecDepth 20000 in
theorem ref_EqBytes {w : World} {A A2 : Option Addr} {R R2 : Bytes} (c c2 : Nat) (h1 : Byt w A R) (h2 : Byt w A2 R2) (l1 : R.length ≤ 100000) (l2 : R2.length ≤ 100000) :
    Calls Try.prog 25 #[.slice A R.length c, .slice A2 R2.length c2] w fun e W => e = .returned (.bool (decide (R = R2))) ∧ Kept w W := by
  have HX := Lib.hid (And.intro h1 h2)
  clear h1 h2
  by_cases hll : R.length = R2.length
  · have HL := Lib.hid (And.intro hll l1)
    rw [← hll]
    clear hll l1 l2
    go_enter Try.func25, Try.ntmps25
    go_wp2_with fail
    go_loopw [5] (fun u1 wr => ∃ k : Nat, k ≤ R.length ∧ u1 = .int .i64 k ∧ R.take k = R2.take k ∧ Kept w wr) (fun u1 _ => 200000 - (intOf u1).toNat)
    case atStart => exact ⟨0, Nat.zero_le _, rfl, by trivial, Upd.refl _ _⟩
    case round =>
      obtain ⟨k, hk, rfl, he, hu⟩ := hrel
      rcases Nat.lt_or_ge k R.length with hlt | hge
      · have hlt2 : k < R2.length := by have := HL.out.1; omega
        have hk' : (k : Int) < (R.length : Int) := by omega
        have hw : IntKind.i64.wrap ((k : Int) + 1) = ((k + 1 : Nat) : Int) := by rw [IntKind.wrap_i64]; have := HL.out.2; omega
        obtain ⟨b, off, rfl, hc⟩ := (HX.out.1.kept hu).get hlt
        obtain ⟨b2, off2, rfl, hc2⟩ := (HX.out.2.kept hu).get hlt2
        have HS := Lib.hid (show R[k] = R2[k] → R.take (k + 1) = R2.take (k + 1) from fun e => by rw [List.take_succ_eq_append_getElem hlt, List.take_succ_eq_append_getElem hlt2, he, e])
        have HN := Lib.hid (show R[k] ≠ R2[k] → R ≠ R2 from fun e e2 => e (by subst e2; rfl))
        have f1 : ∀ W, Kept wr W → W.cell? ⟨b, off + k, none⟩ = some (.int .u8 (R[k].toNat : Int)) := fun W hW => hW.cell hc id
        have f2 : ∀ W, Kept wr W → W.cell? ⟨b2, off2 + k, none⟩ = some (.int .u8 (R2[k].toNat : Int)) := fun W hW => hW.cell hc2 id
        generalize R[k] = x at *
        generalize R2[k] = y at *
        have HK := Lib.hid (And.intro hlt (show Kept w wr.drew from hu.drew))
        have hud : Kept wr wr.drew := (Upd.refl _ wr).drew
        clear he hc hc2 hlt hlt2 hk hu
        by_cases hxy : x = y
        · subst hxy
          go_wp2_with fail
          refine wp_region_ord [(0, true), (1, true), (2, true), (3, true), (4, true), (5, true), (6, true), (7, true), (8, true)] (by kernel_rfl) (by kernel_rfl) (Kept wr) hud ?_
          simp only [ordOps, List.getD_cons_zero, List.getD_cons_succ]
          iterate 9 (refine wpOrd_held (fun K hK => ?_); go_simp; first | (apply Exists.intro; refine ⟨fun W hW => ?_, hK _ ?_⟩; (go_simp; first | done | exact rfl); clear hK K) | (refine hK _ ?_; clear hK K))
          refine wpOrd_nil ?_
          clear f1 f2 hud
          go_wp2
          go_roundw
          case rel => exact ⟨k + 1, by have := HK.out.1; omega, by show _ = _; go_num, HS.out (by trivial), HK.out.2⟩
          case measure => have := HK.out.1; have := HL.out.2; simp [intOf]; omega
        · have hne : ¬ ((x.toNat : Int) = (y.toNat : Int)) := fun e => hxy (u8_inj e)
          have hne2 : ¬ (x.toNat = y.toNat) := fun e => hne (by rw [e])
          have hd : decide (R = R2) = false := decide_eq_false (HN.out hxy)
          have HD := Lib.hid hd
          clear hxy hd
          go_wp2_with fail
          refine wp_region_ord [(0, true), (1, true), (2, true), (3, true), (4, true), (5, true), (6, true), (7, true), (8, true)] (by kernel_rfl) (by kernel_rfl) (Kept wr) hud ?_
          simp only [ordOps, List.getD_cons_zero, List.getD_cons_succ]
          iterate 9 (refine wpOrd_held (fun K hK => ?_); go_simp; first | (apply Exists.intro; refine ⟨fun W hW => ?_, hK _ ?_⟩; (go_simp; first | done | exact rfl); clear hK K) | (refine hK _ ?_; clear hK K))
          refine wpOrd_nil ?_
          clear f1 f2 hud
          go_wp2
          go_ret
          exact ⟨by rw [HD.out]; rfl, HK.out.2⟩
      · obtain rfl : k = R.length := by omega
        have hk' : ¬ ((R.length : Int) < (R.length : Int)) := by omega
        have hd : decide (R = R2) = true := decide_eq_true (by
          have h3 : R2.take R.length = R2 := by rw [HL.out.1, List.take_length]
          rwa [List.take_length, h3] at he)
        have HD := Lib.hid (And.intro hd hu)
        clear hd hu he hk hge
        go_wp2
        go_ret
        exact ⟨by rw [HD.out.1]; rfl, HD.out.2⟩
  · have hd : decide (R = R2) = false := decide_eq_false (fun e => hll (by rw [e]))
    have hne : ¬ ((R.length : Int) = (R2.length : Int)) := by omega
    have HD := Lib.hid hd
    clear hd HX
    go_enter Try.func25, Try.ntmps25
    go_wp2
    go_ret
    exact ⟨by rw [HD.out]; rfl, Upd.refl _ _⟩

/-! ### rows of slices of bytes -/
theorem bs_info : (Try.prog.info? 32).map (fun i => (i.size, i.bytes, i.zero)) = some (1, 24, some (.slice none 0 0)) := by kernel_rfl
theorem bs_rows : RowType Try.prog slA 1 61 32 24 where
  size := slA_size
  one := slA_one
  slice := Try.underlying61
  info := ⟨.slice none 0 0, bs_info, by simp [Value.cells]⟩
  pos := by omega
@[go_sem ↓] theorem exec_one_bsl (ρ : Operand → Value) (dst : Option Tmp) (parts : Array (Nat × Operand)) (ty : TypeId) (pos : String) (after : Array Edge) (guard : Option (Nat × Bool)) :
    execOp ρ ⟨dst, .buildSlice 61 1 parts, ty, pos, after, guard⟩ = sliceRow 61 1 (parts.map fun (i, x) => (i, ρ x)) := rfl
@[go_sem] theorem run_one_bsl (A : Option Addr) (n c : Nat) (W : World) : (sliceRow 61 1 #[(0, .slice A n c)]).run Try.prog W = .ok (.value (.slice (some ⟨W.heap.size, 0, none⟩) 1 1)) (W.alloc (.cells (slA ⟨A, n, c⟩) 32)) := by
  obtain ⟨i, hi, h2⟩ := Option.map_eq_some_iff.1 bs_info
  simp only [Prod.mk.injEq] at h2
  have h := run_buildSlice (P := Try.prog) W 61 32 1 #[(0, .slice A n c)] (slA ⟨A, n, c⟩) i (.slice none 0 0) Try.underlying61 hi h2.2.2 (by rw [h2.1]; omega) (by rw [h2.1]; decide) (by
    rw [h2.1]
    have h0 : Array.range (1 * 1) = #[0] := by decide
    rw [h0]
    simp [Instr.fill, Value.cells, slA])
  simp [sliceRow, h, Result.andThen]

abbrev OwnS (W : World) (B : Nat) (v : Value) (xs : List SlC) : Prop := OwnRows slA 1 W B 32 v xs
/-- a row's cell -/
theorem OwnS.cell {W : World} {B : Nat} {v : Value} {xs : List SlC} (h : OwnS W B v xs) {k : Nat} (hk : k < xs.length) : ∃ g c, v = .slice (some ⟨g, 0, none⟩) xs.length c ∧ B ≤ g ∧ g < W.heap.size ∧ W.cell? ⟨g, k, none⟩ = some xs[k].v := by
  obtain ⟨g, c, hv, hg1, hg2, _⟩ := OwnRows.get slA_size h hk
  refine ⟨g, c, hv, hg1, hg2, ?_⟩
  have hc := World.ownsRow.cells h (g := g) (by rw [hv]; rfl) k xs[k].v (by
    have := rowsOf_get slA_size xs k 0 hk (by omega)
    rw [Nat.mul_one, Nat.add_zero] at this
    rw [this]; rfl)
  rwa [add_none, Nat.zero_add] at hc
/-- leaves in a row of one's own -/
theorem OwnS.leaves {W : World} {B : Nat} {A : Option Addr} {n c : Nat} {l : List (SlC × Bytes)} (h : OwnS W B (.slice A n c) (l.map (·.1))) (hl : ∀ p ∈ l, LeafAt W p.1 p.2 ∧ p.2.length ≤ 140737488351232) : LeavesAt W A l := by
  intro i hi
  obtain ⟨g, c2, hv, _, _, hc⟩ := h.cell (k := i) (by simpa using hi)
  simp only [Value.slice.injEq] at hv
  obtain ⟨rfl, _, _⟩ := hv
  refine ⟨g, 0, rfl, ?_, hl _ (List.getElem_mem hi)⟩
  rw [Nat.zero_add, hc]
  simp

/-- a leaf cut to 100 bytes -/
def cutP (p : SlC × Bytes) : SlC × Bytes := (⟨p.1.A, (p.2.take 100).length, p.1.c⟩, p.2.take 100)
def cutL (l : List (SlC × Bytes)) (k : Nat) : List (SlC × Bytes) := (l.take k).map cutP
theorem cutL_length (l : List (SlC × Bytes)) (k : Nat) : (cutL l k).length = min k l.length := by simp [cutL]
theorem cutL_succ (l : List (SlC × Bytes)) (k : Nat) (h : k < l.length) : cutL l (k + 1) = cutL l k ++ [cutP l[k]] := by
  unfold cutL; rw [List.take_succ_eq_append_getElem h, List.map_append]; rfl
theorem cutL_leaf {W : World} {A : Option Addr} {l : List (SlC × Bytes)} (h : LeavesAt W A l) (k : Nat) : ∀ p ∈ cutL l k, LeafAt W p.1 p.2 ∧ p.2.length ≤ 100 := by
  intro p hp
  obtain ⟨x, hx, rfl⟩ := List.mem_map.1 hp
  obtain ⟨i, hi, rfl⟩ := List.getElem_of_mem (List.mem_of_mem_take hx)
  obtain ⟨b, off, h1, h2, h3, _⟩ := h i hi
  obtain ⟨A2, c2, hx2, hc, hb⟩ := h3.form
  unfold cutP
  rw [hx2]
  refine ⟨⟨hb.take 100, rfl, ?_⟩, ?_⟩
  · show ((l[i].2).take 100).length ≤ c2
    rw [List.length_take]; omega
  · show ((l[i].2).take 100).length ≤ 100
    rw [List.length_take]; omega

set_option maxHeartbeats 1600000 in
set_option maxRecDepth 20000 in
theorem law_cut {w : World} {A : Option Addr} {l : List (SlC × Bytes)} (c : Nat) (h : LeavesAt w A l) (hl : l.length ≤ 140737488351232) :
    Calls Try.prog 37 #[.slice A l.length c, .int .i64 40] w fun e W => ∃ v, e = .returned v ∧ OwnS W w.heap.size v ((cutL l 40).map (·.1)) ∧ Kept w W := by
  have HX := Lib.hid (And.intro h hl)
  clear h hl
  go_enter Try.func37, Try.ntmps37
  go_wp2_with fail
  go_loopw [6, 5] (fun u1 v wr => ∃ k : Nat, k ≤ 40 ∧ k ≤ l.length ∧ u1 = .int .i64 k ∧ OwnS wr w.heap.size v ((cutL l k).map (·.1)) ∧ Kept w wr) (fun u1 _ _ => 2000 - (intOf u1).toNat)
  case atStart => exact ⟨0, by omega, Nat.zero_le _, rfl, OwnRows.nil _ _ _, Upd.refl _ _⟩
  case round =>
    obtain ⟨k, hk, hkl, rfl, hown, hu⟩ := hrel
    by_cases hgo : k < l.length ∧ k < 40
    · have hk1 : (k : Int) < (l.length : Int) := by omega
      have hk2 : (k : Int) < 40 := by omega
      obtain ⟨b, off, A2, c2, rfl, hc, hR, hcap⟩ := HX.out.1.get hgo.1
      have HT := Lib.hid (show (cutL l (k + 1)).map (·.1) = (cutL l k).map (·.1) ++ [⟨A2, (l[k].2.take 100).length, c2⟩] by
        rw [cutL_succ l k hgo.1, List.map_append]
        obtain ⟨b', off', h1, h2, _⟩ := HX.out.1 k hgo.1
        simp only [Option.some.injEq, Addr.mk.injEq, and_true] at h1
        obtain ⟨rfl, rfl⟩ := h1
        rw [hc] at h2
        simp only [Option.some.injEq, SlC.v_eq, Value.slice.injEq] at h2
        simp only [List.map_cons, List.map_nil, cutP]
        rw [h2.1, h2.2.2])
      have HLN := Lib.hid (show ((cutL l k).map (·.1)).length ≤ 40 by rw [List.length_map, cutL_length]; omega)
      have f1 : ∀ W, Kept w W → W.cell? ⟨b, off + k, none⟩ = some (.slice A2 (l[k].2.length) c2) := fun W hW => hW.cell hc id
      generalize l[k].2 = R at *
      obtain ⟨z, hz, hm1, hm2⟩ := min_num R.length
      have hzl : (R.take 100).length = z := by rw [List.length_take]; omega
      rw [hzl] at HT
      have hsl : ∀ W : World, (Instr.sliceAt 32 (.slice A2 R.length c2) none (some (.int .i64 (z : Int))) none).run Try.prog W = .ok (.slice A2 z c2) W := fun W => slice_u8_h W A2 R.length c2 z (by omega)
      generalize (cutL l k).map (·.1) = xs at *
      generalize hys : (cutL l (k + 1)).map (·.1) = ys at *
      have HYS := Lib.hid hys
      clear hys
      have hud : Kept w wr.drew := hu.drew
      have ho1 : OwnS wr.drew w.heap.size _ xs := OwnRows.drew hown
      have HK := Lib.hid hgo
      have HU := Lib.hid hu
      clear hu hown hgo hc hR hcap hz hzl hk hkl
      go_wp2_with fail
      refine wp_region_ord [(0, true), (1, true), (2, true), (3, true), (4, true), (5, true), (6, true), (7, true), (8, true), (9, true), (10, true), (11, true), (12, false), (13, false), (14, true)] (by kernel_rfl) (by kernel_rfl) (Kept w) hud ?_
      simp only [ordOps, List.getD_cons_zero, List.getD_cons_succ]
      iterate 12 (refine wpOrd_held (fun K hK => ?_); go_simp; first | (apply Exists.intro; refine ⟨fun W hW => ?_, hK _ ?_⟩; (go_simp; first | done | exact rfl); clear hK K) | (refine hK _ ?_; clear hK K))
      clear f1 hsl hm1 hm2
      generalize wr.drew = wd at *
      have hg := heap_alloc_new wd (.cells (slA ⟨A2, z, c2⟩) 32)
      have ho2 := ho1.alloc (.cells (slA ⟨A2, z, c2⟩) 32)
      have hu2 := hud.alloc (.cells (slA ⟨A2, z, c2⟩) 32)
      refine wpOrd_step (fun K hK => ?_) hud
      go_simp
      refine hK _ _ hu2 ?_
      clear hK K
      have HO := Lib.hid (And.intro ho2 (And.intro hg hu2))
      clear ho1 ho2 hg
      generalize hWE : wd.alloc (.cells (slA ⟨A2, z, c2⟩) 32) = we at *
      refine wpOrd_step (fun K hK => ?_) hu2
      refine step_append_rows bs_rows rfl (.tmp 18) (.tmp 30) rfl rfl HO.out.1 ⟨A2, z, c2⟩ wd.heap.size 1 _ _ rfl HO.out.2.1 (by have := HLN.out; unfold maxLen; omega) (by have := HLN.out; omega) hu2.size ?_
      intro v' wf hown' hu' hnew
      have huf : Kept w wf := hu2.then hu' (fun i hi e => by have := (World.ownsRow.lt HO.out.1 i e).1; omega)
      refine hK _ _ huf ?_
      clear hK K
      iterate 1 (refine wpOrd_held (fun K hK => ?_); go_simp; first | (apply Exists.intro; refine ⟨fun W hW => ?_, hK _ ?_⟩; (go_simp; first | done | exact rfl); clear hK K) | (refine hK _ ?_; clear hK K))
      refine wpOrd_nil ?_
      have HF := Lib.hid (And.intro hown' huf)
      clear hu2 hud hu' huf hown' hnew hWE
      go_wp2
      go_roundw
      case rel => exact ⟨k + 1, by have := HK.out; omega, by have := HK.out; omega, by show _ = _; go_num, by rw [HYS.out, HT.out]; exact HF.out.1, HF.out.2⟩
      case measure => have := HK.out; simp [intOf]; omega
    · have hfin : cutL l k = cutL l 40 := by
        unfold cutL
        rcases Nat.lt_or_ge k l.length with h1 | h1
        · have h2 : k = 40 := by omega
          rw [h2]
        · rw [List.take_of_length_le (by omega), List.take_of_length_le (by omega)]
      rw [hfin] at hown
      have HF := Lib.hid (And.intro hown hu)
      by_cases hkk : k < l.length
      · obtain rfl : k = 40 := by omega
        have hk1 : (40 : Int) < (l.length : Int) := by omega
        clear hk hkl hgo hkk hown hu hfin
        go_wp2
        go_ret
        exact ⟨_, rfl, HF.out.1, HF.out.2⟩
      · have hk1 : ¬ ((k : Int) < (l.length : Int)) := by omega
        clear hk hkl hgo hkk hown hu hfin
        go_wp2
        go_ret
        exact ⟨_, rfl, HF.out.1, HF.out.2⟩
end Go.Proofs.Ytjimamgghkgdeaa
