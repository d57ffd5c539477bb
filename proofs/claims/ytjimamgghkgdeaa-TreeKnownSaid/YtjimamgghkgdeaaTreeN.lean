/- digests compared; Bring; a tree's root, as the statements ask for it; Set refused. -/
import Derived.Test.YtjimamgghkgdeaaInkC
import Derived.Test.YtjimamgghkgdeaaEq
namespace Go.Proofs.Ytjimamgghkgdeaa
open Go.RowKit

theorem encD_eq (d : Dig) : encD d = .agg (dA d) := rfl
@[go_sem] theorem run_eq_dig (x y : Dig) (xo yo : Operand) (W : World) : (eqRow .eql 40 xo yo (.agg (dA x)) (.agg (dA y))).run Try.prog W = .ok (.value (.bool (decide (x = y)))) W :=
  run_eqRow dig_enc (m := 4) (by omega) (by kernel_rfl) (by rw [Try.underlying40]) (by kernel_rfl) dA encD_eq trivial trivial xo yo W
@[go_sem] theorem run_ne_dig (x y : Dig) (xo yo : Operand) (W : World) : (eqRow .neq 40 xo yo (.agg (dA x)) (.agg (dA y))).run Try.prog W = .ok (.value (.bool (!decide (x = y)))) W :=
  run_neRow dig_enc (m := 4) (by omega) (by kernel_rfl) (by rw [Try.underlying40]) (by kernel_rfl) dA encD_eq trivial trivial xo yo W

/-- Bring, below a positive number -/
theorem ref_Bring (i n : Int) (hi : (Lit.int .i64 i).wf = true) (hn : 1 ≤ n) (hn' : n ≤ 4611686018427387904) (w : World) :
    Calls Try.prog 13 #[.int .i64 i, .int .i64 n] w fun e w' => e = .returned (.int .i64 (i % n)) ∧ w = w' := by
  have hx : -9223372036854775808 ≤ i ∧ i ≤ 9223372036854775807 := by simpa [Lit.wf, IntKind.min, IntKind.max, IntKind.signed, IntKind.bits] using hi
  clear hi
  obtain ⟨h1, h2⟩ := hx
  by_cases h0 : 0 ≤ i
  · have hm : 0 ≤ i % n := Int.emod_nonneg _ (by omega)
    go_enter Try.func13, Try.ntmps13
    go_wp2
    go_ret
    exact ⟨rfl, rfl⟩
  · have hlo : -n < i.tmod n := Int.lt_tmod_of_pos i (by omega)
    have HT : Hid (i.tmod n = if n ∣ i then i % n else i % n - n) := by
      have ht := Int.tmod_eq_emod (a := i) (b := n)
      show _ = _
      rw [ht]
      by_cases hd : n ∣ i
      · simp [hd]
      · rw [if_neg (by omega), if_neg hd]; omega
    have hm : 0 ≤ i % n := Int.emod_nonneg _ (by omega)
    have hm' : i % n < n := Int.emod_lt_of_pos _ (by omega)
    have hhi : i.tmod n ≤ 0 := by
      have ht := HT.out
      split at ht
      · rename_i hdv; have := Int.emod_eq_zero_of_dvd hdv; omega
      · omega
    by_cases hd : i.tmod n < 0
    · go_enter Try.func13, Try.ntmps13
      go_wp2
      go_ret
      refine ⟨?_, rfl⟩
      have ht := HT.out
      have : i.tmod n + n = i % n := by
        split at ht <;> omega
      rw [this]; rfl
    · go_enter Try.func13, Try.ntmps13
      go_wp2
      go_ret
      refine ⟨?_, rfl⟩
      have ht := HT.out
      have : i.tmod n = i % n := by
        split at ht <;> omega
      rw [this]; rfl

theorem mod_range (i n : Int) (hn : 1 ≤ n) : 0 ≤ i % n ∧ i % n < n := ⟨Int.emod_nonneg _ (by omega), Int.emod_lt_of_pos _ (by omega)⟩


theorem tree_Set_no {w : World} {p : Option Addr} (h : NoTree w p) (i : Int) (x : Value) :
    Calls Try.prog 16 #[.pointer p, .int .i64 i, x] w fun e w' => e = .returned (.int .i64 1) ∧ w = w' := by
  go_enter Try.func16, Try.ntmps16
  go_wp2_with fail
  refine (tree_none_no h).mono ?_
  rintro e W ⟨rfl, rfl⟩
  go_wp2
  go_ret
  exact ⟨rfl, rfl⟩
theorem tree_Set_out {w : World} {lo hi t b : Nat} {D : List Dig} (h : TreeAt w lo hi t b D) (i : Int) (x : Value) (hi' : i < 0 ∨ (D.length : Int) ≤ i) :
    Calls Try.prog 16 #[.pointer (some ⟨t, 0, none⟩), .int .i64 i, x] w fun e w' => e = .returned (.int .i64 9) ∧ w = w' := by
  obtain ⟨fv, v, xs, h⟩ := h
  have c0 := h.blk.cell (k := 0) rfl
  have c1 := h.blk.cell (k := 1) rfl
  clear h
  generalize D.length = n at *
  by_cases h0 : i < 0
  · have d0 : decide (i < 0) = true := decide_eq_true h0
    clear hi' h0
    go_enter Try.func16, Try.ntmps16
    go_wp2_with fail
    refine (tree_none c0).mono ?_
    rintro e W ⟨rfl, rfl⟩
    go_wp2
    go_ret
    exact ⟨rfl, rfl⟩
  · have d0 : decide (i < 0) = false := decide_eq_false h0
    have d1 : decide ((n : Int) ≤ i) = true := decide_eq_true (by omega)
    clear hi' h0
    go_enter Try.func16, Try.ntmps16
    go_wp2_with fail
    refine (tree_none c0).mono ?_
    rintro e W ⟨rfl, rfl⟩
    go_wp2
    go_ret
    exact ⟨rfl, rfl⟩

set_option maxHeartbeats 1000000 in
set_option maxRecDepth 20000 in
theorem law_root {w : World} {lo hi t b : Nat} {D : List Dig} (h : TreeAt w lo hi t b D) :
    Calls Try.prog 20 #[.pointer (some ⟨t, 0, none⟩)] w fun e W => e = .returned (.tuple #[.agg (dA (rootM shaM D)), .bool true]) ∧ Kept w W := by
  have hr1 : Blk (w.alloc (.cells (dA dig0) 40)) w.heap.size 40 (encB dig0.1) := Blk.new w _ _
  have hk1 : Kept w (w.alloc (.cells (dA dig0) 40)) := (Upd.refl _ w).alloc _
  have HX := Lib.hid (And.intro (h.kept hk1) (And.intro hr1 hk1))
  generalize hW1 : w.alloc (.cells (dA dig0) 40) = w1 at *
  clear h hr1 hk1
  go_enter Try.func20, Try.ntmps20
  go_wp2_with fail
  refine (tree_Root HX.out.1).mono ?_
  rintro e w2 ⟨rfl, hu2⟩
  have hr2 := HX.out.2.1.kept hu2
  have hk2 := HX.out.2.2.then hu2 (fun _ _ h => h)
  generalize hdd : rootM shaM D = d at *
  have HDD := Lib.hid hdd
  clear hdd
  have hr3 := hr2.alloc (.cells (dA dig0) 40)
  have hk3 : Kept w (w2.alloc (.cells (dA dig0) 40)) := hk2.alloc _
  have hd3 : Blk (w2.alloc (.cells (dA dig0) 40)) w2.heap.size 40 (encB dig0.1) := Blk.new w2 _ _
  have hlt := hr2.lt
  generalize hW3 : w2.alloc (.cells (dA dig0) 40) = w3 at *
  obtain ⟨e1, e2, e3⟩ := dig_end d hd3
  have hu4 : Upd (fun k => k = w2.heap.size) w3 (w3.setRow w2.heap.size (dA d)) := (Upd.refl _ _).setRow _ _ fun _ => rfl
  have hr4 := hr3.upd hu4 (by omega)
  have hk4 : Kept w (w3.setRow w2.heap.size (dA d)) := hk3.setRow _ _ (fun h => by have := hk2.size; omega)
  generalize hW4 : w3.setRow w2.heap.size (dA d) = w4 at *
  obtain ⟨g1, g2, g3⟩ := dig_end d hr4
  have HY : Hid (Kept w (w4.setRow w.heap.size (dA d)) ∧ segB (w4.setRow w.heap.size (dA d)) ⟨w.heap.size, 0, none⟩ 32 = true ∧ segV (w4.setRow w.heap.size (dA d)) ⟨w.heap.size, 0, none⟩ 32 = dA d) := ⟨hk4.setRow _ _ (fun h => absurd h (Nat.lt_irrefl _)), g2, g3⟩
  clear hr2 hk2 hr3 hk3 hd3 hlt hu4 hr4 hk4 g2 g3 HX hW1
  go_wp2
  refine bodyPost_ret (v := .tuple #[.agg (dA d), .bool true]) ?_ rfl ⟨by rw [HDD.out], HY.out.1⟩
  rw [results_seg2 (P := Try.prog) (fn := Try.f20) (p := 2) (t := 3) (ty := 40) rfl _ _ ⟨w.heap.size, 0, none⟩ 32 _ (.bool true) rfl rfl Try.underlying40 rfl sizeOf40 HY.out.2.1, HY.out.2.2]
end Go.Proofs.Ytjimamgghkgdeaa
