/- What the tree's functions answer of books that are none, and of too many leaves. -/
import Derived.Test.YtjimamgghkgdeaaTreeP
namespace Go.Proofs.Ytjimamgghkgdeaa
open Go.RowKit

/-- a book that is none -/
def NoBook (w : World) (p : Option Addr) : Prop := p = none ∨ ∃ b, p = some ⟨b, 0, none⟩ ∧ w.cell? ⟨b, 0, none⟩ = some (.map none)
theorem NoBook.kept {w W : World} {p : Option Addr} (h : NoBook w p) (hu : Kept w W) : NoBook W p :=
  h.imp id fun ⟨b, h1, h2⟩ => ⟨b, h1, hu.cell h2 id⟩
theorem ink_map_none (w : World) : (binOp .eql 67 (.map none) (.map none)).run Try.prog w = .ok (.bool true) w :=
  run_eql_map_nil w _ _ _ none Try.underlying67
attribute [local go_sem] ink_map_none
theorem ink_none_no {w : World} {p : Option Addr} (h : NoBook w p) :
    Calls Try.prog 52 #[.pointer p] w fun e w' => e = .returned (.bool true) ∧ w = w' := by
  rcases h with rfl | ⟨b, rfl, hc⟩
  · go_enter Try.func52, Try.ntmps52
    go_wp2
    go_ret
    exact ⟨rfl, rfl⟩
  · go_enter Try.func52, Try.ntmps52
    go_wp2
    go_ret
    exact ⟨rfl, rfl⟩
set_option maxHeartbeats 800000 in
set_option maxRecDepth 20000 in
theorem ink_Of_no {w : World} {p : Option Addr} (h : NoBook w p) (x : Value) :
    Calls Try.prog 50 #[.pointer p, x] w fun e W => e = .returned (.tuple #[.agg (dA dig0), .int .i64 1]) ∧ Kept w W := by
  have hr1 : Blk (w.alloc (.cells (dA dig0) 40)) w.heap.size 40 (encB dig0.1) := Blk.new w _ _
  have hk1 : Kept w (w.alloc (.cells (dA dig0) 40)) := (Upd.refl _ w).alloc _
  generalize hW1 : w.alloc (.cells (dA dig0) 40) = w1 at *
  obtain ⟨hrb, hs1, hs2⟩ := dig_end dig0 hr1
  have HF : Hid (Kept w (w1.setRow w.heap.size (dA dig0)) ∧ segB (w1.setRow w.heap.size (dA dig0)) ⟨w.heap.size, 0, none⟩ 32 = true ∧ segV (w1.setRow w.heap.size (dA dig0)) ⟨w.heap.size, 0, none⟩ 32 = dA dig0) := ⟨Upd.setRow hk1 _ _ (fun h => absurd h (Nat.lt_irrefl _)), hs1, hs2⟩
  clear hs1 hs2
  have h1 := h.kept hk1
  clear h hr1 hk1
  go_enter Try.func50, Try.ntmps50
  go_wp2_with fail
  refine (ink_none_no h1).mono ?_
  rintro e w1' ⟨rfl, rfl⟩
  go_wp2
  refine bodyPost_ret (v := .tuple #[.agg (dA dig0), .int .i64 1]) ?_ rfl ⟨rfl, HF.out.1⟩
  rw [results_seg2 (P := Try.prog) (fn := Try.f50) (p := 4) (t := 5) (ty := 40) rfl _ _ ⟨w.heap.size, 0, none⟩ 32 _ (.int .i64 1) rfl rfl Try.underlying40 rfl sizeOf40 HF.out.2.1, HF.out.2.2]

set_option maxHeartbeats 800000 in
set_option maxRecDepth 20000 in
theorem tree_Leaf_no {w : World} {p : Option Addr} (h : NoBook w p) (c : Nat) :
    Calls Try.prog 35 #[.pointer p, .slice none 0 c] w fun e W => e = .returned (.tuple #[.agg (dA dig0), .int .i64 1]) ∧ Kept w W := by
  have hr1 : Blk (w.alloc (.cells (dA dig0) 40)) w.heap.size 40 (encB dig0.1) := Blk.new w _ _
  have hk1 : Kept w (w.alloc (.cells (dA dig0) 40)) := (Upd.refl _ w).alloc _
  generalize hW1 : w.alloc (.cells (dA dig0) 40) = w1 at *
  obtain ⟨v0, w2, hbs, hB, hk2⟩ := run_bs1 0 w1
  change (sliceRow 32 1 #[(0, .int .u8 0)]).run Try.prog w1 = _ at hbs
  have HX := Lib.hid (And.intro (h.kept hk1) (And.intro hr1 hk1))
  have HB := Lib.hid (And.intro hB hk2)
  clear h hr1 hk1 hB hk2
  go_enter Try.func35, Try.ntmps35
  go_wp2_with (at_builtin; refine wpList_append_bytes (R := []) rfl (.tmp 11) (.tmp 12) rfl rfl HB.out.1 none c rfl (.inl rfl) (by simp) HB.out.2.size ?_; intro v' w3 hown hu3)
  have hr3 : Blk w3 w.heap.size 40 (encB dig0.1) := (HX.out.2.1.kept HB.out.2).upd hu3 (fun e => by have := (HB.out.1.far _ e).1; have := HX.out.2.1.lt; omega)
  have hk3 : Kept w w3 := (HX.out.2.2.then HB.out.2 fun _ _ h => h).then hu3 (fun i hi e => by have := (HB.out.1.far _ e).1; have := HX.out.2.2.size; omega)
  have h3 : NoBook w3 p := by
    rcases HX.out.1 with h0 | ⟨b, h1, h2⟩
    · exact .inl h0
    · refine .inr ⟨b, h1, hu3.cell (HB.out.2.cell h2 id) (fun e => ?_)⟩
      have h4 := (HB.out.1.far _ e).1
      have h5 : b < w1.heap.size := World.block_lt_of_cell? _ _ h2
      have h6 : w1.heap.size ≤ b := h4
      omega
  refine (ink_Of_no h3 v').mono ?_
  rintro e w4 ⟨rfl, hu4⟩
  have hr4 := hr3.kept hu4
  have hk4 : Kept w w4 := hk3.then hu4 (fun _ _ h => h)
  obtain ⟨hrb, hs1, hs2⟩ := dig_end dig0 hr4
  have HF : Hid (Kept w (w4.setRow w.heap.size (dA dig0)) ∧ segB (w4.setRow w.heap.size (dA dig0)) ⟨w.heap.size, 0, none⟩ 32 = true ∧ segV (w4.setRow w.heap.size (dA dig0)) ⟨w.heap.size, 0, none⟩ 32 = dA dig0) := ⟨Upd.setRow hk4 _ _ (fun h => absurd h (Nat.lt_irrefl _)), hs1, hs2⟩
  clear hs1 hs2
  clear hr4 hk4 hr3 hk3 h3 hu4 hu3 hown HX HB hbs hW1
  go_wp2
  refine bodyPost_ret (v := .tuple #[.agg (dA dig0), .int .i64 1]) ?_ rfl ⟨rfl, HF.out.1⟩
  rw [results_seg2 (P := Try.prog) (fn := Try.f35) (p := 4) (t := 5) (ty := 40) rfl _ _ ⟨w.heap.size, 0, none⟩ 32 _ (.int .i64 1) rfl rfl Try.underlying40 rfl sizeOf40 HF.out.2.1, HF.out.2.2]

set_option maxHeartbeats 1600000 in
set_option maxRecDepth 20000 in
theorem tree_Up_nil {w : World} {p : Option Addr} (h : NoBook w p) {A : Option Addr} {D : List Dig} (c : Nat) (hD : Digs w A D) (h1 : 1 ≤ D.length) (h4 : D.length ≤ 4) :
    Calls Try.prog 19 #[.pointer p, .slice A D.length c] w fun e W => e = .returned (.tuple #[.agg (dA dig0), .int .i64 1]) ∧ Kept w W := by
  have hr1 : Blk (w.alloc (.cells (dA dig0) 40)) w.heap.size 40 (encB dig0.1) := Blk.new w _ _
  have hk1 : Kept w (w.alloc (.cells (dA dig0) 40)) := (Upd.refl _ w).alloc _
  generalize hW1 : w.alloc (.cells (dA dig0) 40) = w1 at *
  have hD1 := hD.kept hk1
  obtain ⟨v0, w2, hbs, hB, hk2⟩ := run_bs1 1 w1
  change (sliceRow 32 1 #[(0, .int .u8 1)]).run Try.prog w1 = _ at hbs
  have HX := Lib.hid (And.intro (h.kept hk1) (And.intro hD1 (And.intro hr1 (And.intro hk1 (And.intro hB hk2)))))
  have HL := Lib.hid (And.intro h1 h4)
  have hd1 : decide ((D.length : Int) < 1) = false := by rw [decide_eq_false_iff_not]; omega
  have hd4 : decide ((4 : Int) < (D.length : Int)) = false := by rw [decide_eq_false_iff_not]; omega
  clear h hD hD1 hr1 hk1 hB hk2 h1 h4
  go_enter Try.func19, Try.ntmps19
  go_wp2_with fail
  go_loopw [21, 6] (fun i v wr => ∃ k : Nat, k ≤ D.length ∧ i = .int .i64 k ∧ OwnB wr w1.heap.size v (1 :: flatD (D.take k)) ∧ Kept w1 wr) (fun i _ _ => D.length - (intOf i).toNat)
  case atStart => exact ⟨0, Nat.zero_le _, rfl, HX.out.2.2.2.2.1, HX.out.2.2.2.2.2⟩
  case round =>
    obtain ⟨k, hk, rfl, hown, hu⟩ := hrel
    rcases Nat.lt_or_ge k D.length with hlt | hge
    · obtain ⟨bd, off, rfl, s1, s2⟩ := (HX.out.2.1.kept hu).get hlt
      have hk' : (k : Int) < (D.length : Int) := by omega
      have hk5 : (k : Int) < 4 := by have := HL.out.2; omega
      have HS : Hid (1 :: flatD (D.take (k + 1)) = (1 :: flatD (D.take k)) ++ D[k].1) := by show _ = _; rw [flatD_snoc D k hlt]; rfl
      have HLN : Hid ((1 :: flatD (D.take k) : Bytes).length ≤ 200) := by
        show _ ≤ _
        rw [List.length_cons, flatD_length, List.length_take]
        have := HL.out.2
        omega
      obtain ⟨d, hd⟩ : ∃ d, d = D[k] := ⟨_, rfl⟩
      rw [← hd] at s2 HS
      clear hd
      have hown2 := hown.kept ((Upd.refl (fun _ => False) wr).alloc (.cells (dA d) 40))
      have hu2 : Kept w1 (wr.alloc (.cells (dA d) 40)) := hu.alloc _
      have hblk : Blk (wr.alloc (.cells (dA d) 40)) wr.heap.size 40 (encB d.1) := Blk.new wr _ _
      have hsl : ∀ W, (Instr.sliceAt 40 (.pointer (some ⟨wr.heap.size, 0, none⟩)) none none none).run Try.prog W = .ok (.slice (some ⟨wr.heap.size, 0, none⟩) 32 32) W := fun W => slice_dig_all W _
      have hbyt : Byt (wr.alloc (.cells (dA d) 40)) (some ⟨wr.heap.size, 0, none⟩) d.1 := .inr ⟨_, _, rfl, hblk.range 0 (fun j _ => by rw [Nat.zero_add])⟩
      generalize hWA : wr.alloc (.cells (dA d) 40) = wa at *
      have HR := Lib.hid (And.intro hown2 (And.intro hu2 hbyt))
      clear hown hu hown2 hu2 hblk hbyt
      generalize flatD (D.take k) = F at *
      go_wp2_with (at_builtin; refine wpList_append_bytes (R := d.1) rfl (.tmp 25) (.tmp 26) rfl rfl HR.out.1 (some ⟨wr.heap.size, 0, none⟩) 32 (by rw [d.2]; rfl) HR.out.2.2 (by have := HLN.out; rw [d.2]; omega) HR.out.2.1.size ?_; intro v' w3 hown hu3)
      go_roundw
      case rel =>
        refine ⟨k + 1, by omega, by go_num, by rw [HS.out]; exact hown, HR.out.2.1.then hu3 fun i hi e => ?_⟩
        have := (HR.out.1.far _ e).1
        omega
      case measure => simp [intOf]; omega
    · obtain rfl : k = D.length := by omega
      have HY := Lib.hid (And.intro (HX.out.1.kept hu) (And.intro (HX.out.2.2.1.kept hu) (show Kept w wr from HX.out.2.2.2.1.then hu fun _ _ h => h)))
      clear hown hu hbs hW1 HX
      go_wp2_with fail
      refine (ink_Of_no HY.out.1 _).mono ?_
      rintro e w4 ⟨rfl, hu4⟩
      have hr4 := HY.out.2.1.kept hu4
      have hk4 : Kept w w4 := HY.out.2.2.then hu4 (fun _ _ h => h)
      obtain ⟨hrb, hs1, hs2⟩ := dig_end dig0 hr4
      have HF : Hid (Kept w (w4.setRow w.heap.size (dA dig0)) ∧ segB (w4.setRow w.heap.size (dA dig0)) ⟨w.heap.size, 0, none⟩ 32 = true ∧ segV (w4.setRow w.heap.size (dA dig0)) ⟨w.heap.size, 0, none⟩ 32 = dA dig0) := ⟨Upd.setRow hk4 _ _ (fun h => absurd h (Nat.lt_irrefl _)), hs1, hs2⟩
      clear hs1 hs2
      clear hr4 hk4 hu4 HY
      go_wp2
      refine bodyPost_ret (v := .tuple #[.agg (dA dig0), .int .i64 1]) ?_ rfl ⟨rfl, HF.out.1⟩
      rw [results_seg2 (P := Try.prog) (fn := Try.f19) (p := 4) (t := 5) (ty := 40) rfl _ _ ⟨w.heap.size, 0, none⟩ 32 _ (.int .i64 1) rfl rfl Try.underlying40 rfl sizeOf40 HF.out.2.1, HF.out.2.2]

/-! ### New -/
set_option maxHeartbeats 800000 in
set_option maxRecDepth 20000 in
theorem tree_New_bad {w : World} {p : Option Addr} (n : Int) (hn : n < 1 ∨ 1024 < n) :
    Calls Try.prog 15 #[.pointer p, .int .i64 n] w fun e W => e = .returned (.tuple #[.pointer none, .int .i64 2]) ∧ Kept w W := by
  have h21 : Blk (w.alloc (.cells #[.pointer p] 25)) w.heap.size 25 [.pointer p] := Blk.new w _ _
  have hk1 : Kept w (w.alloc (.cells #[.pointer p] 25)) := (Upd.refl _ w).alloc _
  generalize hW1 : w.alloc (.cells #[.pointer p] 25) = w1 at *
  have h22 := h21.alloc (.cells #[.int .i64 n] 3)
  have h32 : Blk (w1.alloc (.cells #[.int .i64 n] 3)) w1.heap.size 3 [.int .i64 n] := Blk.new w1 _ _
  have hk2 : Kept w (w1.alloc (.cells #[.int .i64 n] 3)) := hk1.alloc _
  generalize hW2 : w1.alloc (.cells #[.int .i64 n] 3) = w2 at *
  have c2 := h22.cell (k := 0) rfl
  have c3 := h32.cell (k := 0) rfl
  have HX := Lib.hid hk2
  clear hk1 hk2 h21 h22 h32
  by_cases h1 : n < 1
  · have hn1 : decide (n < 1) = true := decide_eq_true h1
    clear hn h1
    go_enter Try.func15, Try.ntmps15
    go_wp2
    go_ret2
    exact ⟨rfl, HX.out⟩
  · have hn1 : decide (n < 1) = false := decide_eq_false h1
    have hn2 : decide (1024 < n) = true := decide_eq_true (by omega)
    clear hn h1
    go_enter Try.func15, Try.ntmps15
    go_wp2
    go_ret2
    exact ⟨rfl, HX.out⟩
set_option maxHeartbeats 800000 in
set_option maxRecDepth 20000 in
theorem tree_New_no {w : World} {p : Option Addr} (h : NoBook w p) (n : Int) (h1 : 1 ≤ n) (h2 : n ≤ 1024) :
    Calls Try.prog 15 #[.pointer p, .int .i64 n] w fun e W => e = .returned (.tuple #[.pointer none, .int .i64 1]) ∧ Kept w W := by
  have h21 : Blk (w.alloc (.cells #[.pointer p] 25)) w.heap.size 25 [.pointer p] := Blk.new w _ _
  have hk1 : Kept w (w.alloc (.cells #[.pointer p] 25)) := (Upd.refl _ w).alloc _
  generalize hW1 : w.alloc (.cells #[.pointer p] 25) = w1 at *
  have h22 := h21.alloc (.cells #[.int .i64 n] 3)
  have h32 : Blk (w1.alloc (.cells #[.int .i64 n] 3)) w1.heap.size 3 [.int .i64 n] := Blk.new w1 _ _
  have hk2 : Kept w (w1.alloc (.cells #[.int .i64 n] 3)) := hk1.alloc _
  generalize hW2 : w1.alloc (.cells #[.int .i64 n] 3) = w2 at *
  have c2 := h22.cell (k := 0) rfl
  have c3 := h32.cell (k := 0) rfl
  have HX := Lib.hid hk2
  clear hk1 hk2 h21 h22 h32
  have hn1 : decide (n < 1) = false := decide_eq_false (by omega)
  have hn2 : decide (1024 < n) = false := decide_eq_false (by omega)
  have HN := Lib.hid (h.kept HX.out)
  clear h h1 h2
  go_enter Try.func15, Try.ntmps15
  go_wp2_with fail
  refine (tree_Leaf_no HN.out 0).mono ?_
  rintro e w3 ⟨rfl, hu3⟩
  have HF := Lib.hid ((HX.out.then hu3 (fun _ _ h => h)).alloc (.cells (dA dig0) 40))
  clear hu3 c2 c3 hn1 hn2
  go_wp2
  go_ret2
  exact ⟨rfl, HF.out⟩

/-! ### Of -/
set_option maxHeartbeats 800000 in
set_option maxRecDepth 20000 in
theorem tree_Of_bad {w : World} {p A : Option Addr} {n : Nat} (c : Nat) (hn : n < 1 ∨ 1024 < n) :
    Calls Try.prog 38 #[.pointer p, .slice A n c] w fun e W => e = .returned (.tuple #[.agg (dA dig0), .int .i64 2]) ∧ Kept w W := by
  have hr1 : Blk (w.alloc (.cells (dA dig0) 40)) w.heap.size 40 (encB dig0.1) := Blk.new w _ _
  have hk1 : Kept w (w.alloc (.cells (dA dig0) 40)) := (Upd.refl _ w).alloc _
  generalize hW1 : w.alloc (.cells (dA dig0) 40) = w1 at *
  obtain ⟨hrb, hs1, hs2⟩ := dig_end dig0 hr1
  have HF : Hid (Kept w (w1.setRow w.heap.size (dA dig0)) ∧ segB (w1.setRow w.heap.size (dA dig0)) ⟨w.heap.size, 0, none⟩ 32 = true ∧ segV (w1.setRow w.heap.size (dA dig0)) ⟨w.heap.size, 0, none⟩ 32 = dA dig0) := ⟨Upd.setRow hk1 _ _ (fun h => absurd h (Nat.lt_irrefl _)), hs1, hs2⟩
  clear hs1 hs2
  clear hr1 hk1
  by_cases h1 : n < 1
  · have hd1 : decide ((n : Int) < 1) = true := by rw [decide_eq_true_iff]; omega
    clear hn h1
    go_enter Try.func38, Try.ntmps38
    go_wp2
    refine bodyPost_ret (v := .tuple #[.agg (dA dig0), .int .i64 2]) ?_ rfl ⟨rfl, HF.out.1⟩
    rw [results_seg2 (P := Try.prog) (fn := Try.f38) (p := 4) (t := 5) (ty := 40) rfl _ _ ⟨w.heap.size, 0, none⟩ 32 _ (.int .i64 2) rfl rfl Try.underlying40 rfl sizeOf40 HF.out.2.1, HF.out.2.2]
  · have hd1 : decide ((n : Int) < 1) = false := by rw [decide_eq_false_iff_not]; omega
    have hd2 : decide ((1024 : Int) < (n : Int)) = true := by rw [decide_eq_true_iff]; omega
    have hd3 : decide (1024 < n) = true := by rw [decide_eq_true_iff]; omega
    clear hn h1
    go_enter Try.func38, Try.ntmps38
    go_wp2
    refine bodyPost_ret (v := .tuple #[.agg (dA dig0), .int .i64 2]) ?_ rfl ⟨rfl, HF.out.1⟩
    rw [results_seg2 (P := Try.prog) (fn := Try.f38) (p := 4) (t := 5) (ty := 40) rfl _ _ ⟨w.heap.size, 0, none⟩ 32 _ (.int .i64 2) rfl rfl Try.underlying40 rfl sizeOf40 HF.out.2.1, HF.out.2.2]

set_option maxHeartbeats 800000 in
theorem slices_IndexFunc_long {w : World} {b off : Nat} {A2 : Option Addr} {m c2 : Nat} (c : Nat) (hc : w.cell? ⟨b, off, none⟩ = some (.slice A2 m c2)) (hm : 65536 ≤ m) :
    Calls Try.prog 66 #[.slice (some ⟨b, off, none⟩) 1 c, longF] w fun e w' => e = .returned (.int .i64 0) ∧ w = w' := by
  have HM := Lib.hid hm
  clear hm
  unfold longF
  go_enter Try.func66, Try.ntmps66
  go_wp2_with fail
  go_loopw [8] (fun u1 wr => u1 = .int .i64 0 ∧ wr = w) (fun u1 _ => 2000 - (intOf u1).toNat)
  case atStart => exact ⟨by trivial, by trivial⟩
  case round =>
    obtain ⟨rfl, rfl⟩ := hrel
    go_wp2_with fail
    refine (tree_Of1 A2 m c2 _).mono ?_
    rw [decide_eq_true HM.out]
    rintro e W ⟨rfl, rfl⟩
    go_wp2
    go_ret
    exact ⟨rfl, rfl⟩
set_option maxHeartbeats 800000 in
theorem slices_ContainsFunc_long {w : World} {b off : Nat} {A2 : Option Addr} {m c2 : Nat} (c : Nat) (hc : w.cell? ⟨b, off, none⟩ = some (.slice A2 m c2)) (hm : 65536 ≤ m) :
    Calls Try.prog 56 #[.slice (some ⟨b, off, none⟩) 1 c, longF] w fun e w' => e = .returned (.bool true) ∧ w = w' := by
  have HG := slices_IndexFunc_long c hc hm
  clear hc hm
  generalize longF = F at *
  go_enter Try.func56, Try.ntmps56
  go_wp2_with fail
  refine HG.mono ?_
  rintro e W ⟨rfl, rfl⟩
  clear HG
  go_wp2
  go_ret
  exact ⟨rfl, rfl⟩
set_option maxHeartbeats 800000 in
set_option maxRecDepth 20000 in
theorem tree_Of_long {w : World} {p : Option Addr} {b off : Nat} {A2 : Option Addr} {m c2 : Nat} (c : Nat) (hc : w.cell? ⟨b, off, none⟩ = some (.slice A2 m c2)) (hm : 65536 ≤ m) :
    Calls Try.prog 38 #[.pointer p, .slice (some ⟨b, off, none⟩) 1 c] w fun e W => e = .returned (.tuple #[.agg (dA dig0), .int .i64 5]) ∧ Kept w W := by
  have hr1 : Blk (w.alloc (.cells (dA dig0) 40)) w.heap.size 40 (encB dig0.1) := Blk.new w _ _
  have hk1 : Kept w (w.alloc (.cells (dA dig0) 40)) := (Upd.refl _ w).alloc _
  generalize hW1 : w.alloc (.cells (dA dig0) 40) = w1 at *
  obtain ⟨hrb, hs1, hs2⟩ := dig_end dig0 hr1
  have HF : Hid (Kept w (w1.setRow w.heap.size (dA dig0)) ∧ segB (w1.setRow w.heap.size (dA dig0)) ⟨w.heap.size, 0, none⟩ 32 = true ∧ segV (w1.setRow w.heap.size (dA dig0)) ⟨w.heap.size, 0, none⟩ 32 = dA dig0) := ⟨Upd.setRow hk1 _ _ (fun h => absurd h (Nat.lt_irrefl _)), hs1, hs2⟩
  clear hs1 hs2
  have HG := slices_ContainsFunc_long c (hk1.cell hc id) hm
  unfold longF at HG
  clear hr1 hk1 hc hm
  go_enter Try.func38, Try.ntmps38
  go_wp2_with fail
  refine HG.mono ?_
  rintro e W ⟨rfl, rfl⟩
  clear HG
  go_wp2
  refine bodyPost_ret (v := .tuple #[.agg (dA dig0), .int .i64 5]) ?_ rfl ⟨rfl, HF.out.1⟩
  rw [results_seg2 (P := Try.prog) (fn := Try.f38) (p := 4) (t := 5) (ty := 40) rfl _ _ ⟨w.heap.size, 0, none⟩ 32 _ (.int .i64 5) rfl rfl Try.underlying40 rfl sizeOf40 HF.out.2.1, HF.out.2.2]
set_option maxHeartbeats 800000 in
set_option maxRecDepth 20000 in
theorem tree_Of_no {w : World} {p : Option Addr} (h : NoBook w p) {b off : Nat} (c cz : Nat) (hc : w.cell? ⟨b, off, none⟩ = some (.slice none 0 cz)) :
    Calls Try.prog 38 #[.pointer p, .slice (some ⟨b, off, none⟩) 1 c] w fun e W => e = .returned (.tuple #[.agg (dA dig0), .int .i64 1]) ∧ Kept w W := by
  have hr1 : Blk (w.alloc (.cells (dA dig0) 40)) w.heap.size 40 (encB dig0.1) := Blk.new w _ _
  have hk1 : Kept w (w.alloc (.cells (dA dig0) 40)) := (Upd.refl _ w).alloc _
  generalize hW1 : w.alloc (.cells (dA dig0) 40) = w1 at *
  have hlv : LeavesAt w1 (some ⟨b, off, none⟩) [((⟨none, 0, cz⟩ : SlC), ([] : Bytes))] := fun i hi => by
    obtain rfl : i = 0 := by simpa using hi
    exact ⟨b, off, rfl, by simpa [SlC.v_eq] using hk1.cell hc id, ⟨.inl rfl, rfl, Nat.zero_le _⟩, by simp⟩
  have HG := slices_ContainsFunc c hlv (by simp) (by simp)
  simp only [List.length_singleton] at HG
  unfold longF at HG
  have hc1 := hk1.cell hc id
  have HX := Lib.hid (And.intro (h.kept hk1) (And.intro hr1 hk1))
  clear hr1 hk1 hc hlv h
  go_enter Try.func38, Try.ntmps38
  go_wp2_with fail
  refine HG.mono ?_
  rintro e W ⟨rfl, rfl⟩
  clear HG
  go_wp2_with fail
  go_loopw [26] (fun u1 wr => u1 = .int .i64 0 ∧ wr = w1) (fun u1 _ => 2000 - (intOf u1).toNat)
  case atStart => exact ⟨by trivial, by trivial⟩
  case round =>
    obtain ⟨rfl, rfl⟩ := hrel
    go_wp2_with fail
    refine (tree_Leaf_no HX.out.1 cz).mono ?_
    rintro e w4 ⟨rfl, hu4⟩
    have hu5 : Kept wr (w4.alloc (.cells (dA dig0) 40)) := hu4.alloc _
    have hr5 := HX.out.2.1.kept hu5
    have hk5 : Kept w (w4.alloc (.cells (dA dig0) 40)) := HX.out.2.2.then hu5 (fun _ _ h => h)
    obtain ⟨hrb, hs1, hs2⟩ := dig_end dig0 hr5
    have HF : Hid (Kept w ((w4.alloc (.cells (dA dig0) 40)).setRow w.heap.size (dA dig0)) ∧ segB ((w4.alloc (.cells (dA dig0) 40)).setRow w.heap.size (dA dig0)) ⟨w.heap.size, 0, none⟩ 32 = true ∧ segV ((w4.alloc (.cells (dA dig0) 40)).setRow w.heap.size (dA dig0)) ⟨w.heap.size, 0, none⟩ 32 = dA dig0) := ⟨Upd.setRow hk5 _ _ (fun h => absurd h (Nat.lt_irrefl _)), hs1, hs2⟩
    clear hs1 hs2
    clear hu4 hu5 hr5 hk5
    go_wp2
    refine bodyPost_ret (v := .tuple #[.agg (dA dig0), .int .i64 1]) ?_ rfl ⟨rfl, HF.out.1⟩
    rw [results_seg2 (P := Try.prog) (fn := Try.f38) (p := 4) (t := 5) (ty := 40) rfl _ _ ⟨w.heap.size, 0, none⟩ 32 _ (.int .i64 1) rfl rfl Try.underlying40 rfl sizeOf40 HF.out.2.1, HF.out.2.2]
end Go.Proofs.Ytjimamgghkgdeaa
