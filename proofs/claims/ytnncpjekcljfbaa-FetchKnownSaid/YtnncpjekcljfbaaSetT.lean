/- The texts of this hand-in, merged: GetE GetF. -/
import Derived.Test.YtnncpjekcljfbaaSetR
import Derived.Test.YtnncpjekcljfbaaSetL
import Derived.Great.FillDense
/- Fetches that are none; zero values; the closed statement's numbers. -/
namespace Go.Proofs.Ytnncpjekcljfbaa
open Go.RowKit

attribute [local go_sem] spot_store
section
variable {w : World} {p : Option Addr}
set_option maxHeartbeats 800000 in
theorem fetch_Ask_none (h : NoFetch w p) : Calls Try.prog 67 #[.pointer p] w fun e W => e = .returned (askV none) ∧ Kept w W := by
  unfold askV
  have x1 := Boxed.new w 107 (.pointer p)
  have k1 : Kept w (w.alloc (.cells #[.pointer p] 107)) := (Upd.refl _ w).alloc _
  generalize hW1 : w.alloc (.cells #[.pointer p] 107) = w1 at *
  have x2 := Boxed.new w1 3 (.int .i64 0)
  have k2 := k1.alloc (.cells #[.int .i64 0] 3)
  have x1 := x1.alloc (.cells #[.int .i64 0] 3)
  generalize hW2 : w1.alloc (.cells #[.int .i64 0] 3) = w2 at *
  have x3 := Boxed.new w2 3 (.int .i64 0)
  have k3 := k2.alloc (.cells #[.int .i64 0] 3)
  have x1 := x1.alloc (.cells #[.int .i64 0] 3)
  have x2 := x2.alloc (.cells #[.int .i64 0] 3)
  generalize hW3 : w2.alloc (.cells #[.int .i64 0] 3) = w3 at *
  have x4 := Boxed.new w3 4 (.bool false)
  have k4 := k3.alloc (.cells #[.bool false] 4)
  have x1 := x1.alloc (.cells #[.bool false] 4)
  have x2 := x2.alloc (.cells #[.bool false] 4)
  have x3 := x3.alloc (.cells #[.bool false] 4)
  generalize hW4 : w3.alloc (.cells #[.bool false] 4) = w4 at *
  have n12 : w1.heap.size ≠ w2.heap.size := by have := x2.lt; have := World.size_alloc w1 (.cells #[.int .i64 0] 3); rw [hW2] at this; omega
  have n23 : w2.heap.size ≠ w3.heap.size := by have := World.size_alloc w2 (.cells #[.int .i64 0] 3); rw [hW3] at this; omega
  have n13 : w1.heap.size ≠ w3.heap.size := by have := World.size_alloc w2 (.cells #[.int .i64 0] 3); rw [hW3] at this; have := World.size_alloc w1 (.cells #[.int .i64 0] 3); rw [hW2] at this; omega
  have h4 := h.kept k4
  have y1 := x1.cell
  have s2 := x2.set (.int .i64 0)
  have s3 := x3.other (fun e => n12 e.symm) (.int .i64 0)
  have s4 := x4.other (fun e => n13 e.symm) (.int .i64 0)
  have t2 := s2.other n12 (.int .i64 0)
  have t3 := s3.set (.int .i64 0)
  have t4 := s4.other (fun e => n23 e.symm) (.int .i64 0)
  have r2 := t2.other n13 (.bool false)
  have r3 := t3.other n23 (.bool false)
  have r4 := t4.set (.bool false)
  have hk5 : Kept w (((w4.setCell ⟨w1.heap.size, 0, none⟩ (.int .i64 0)).setCell ⟨w2.heap.size, 0, none⟩ (.int .i64 0)).setCell ⟨w3.heap.size, 0, none⟩ (.bool false)) :=
    ((k4.setCell (p := ⟨w1.heap.size, 0, none⟩) _ (fun e => absurd k1.size (Nat.not_le.2 e))).setCell (p := ⟨w2.heap.size, 0, none⟩) _ (fun e => absurd k2.size (Nat.not_le.2 e))).setCell (p := ⟨w3.heap.size, 0, none⟩) _ (fun e => absurd k3.size (Nat.not_le.2 e))
  have HF := Lib.hid (And.intro hk5 (And.intro r2.cell (And.intro r3.cell r4.cell)))
  have c2 := x2.cell
  have z2 := x2.frozen
  have c3 := s3.cell
  have z3 := s3.frozen
  have c4 := t4.cell
  have z4 := t4.frozen
  clear h k1 k2 k3 k4 x1 x2 x3 x4 s2 s3 s4 t2 t3 t4 r2 r3 r4 hk5 n12 n13 n23
  go_enter Try.func67, Try.ntmps67
  go_wp2_with fail
  refine (fetch_none_no h4).mono ?_
  rintro e W ⟨rfl, rfl⟩
  go_wp2
  obtain ⟨hk5, d1, d2, d3⟩ := HF.out
  refine bodyPost_ret (v := .tuple #[.int .i64 0, .int .i64 0, .bool false]) ?_ rfl ⟨rfl, hk5⟩
  simp [results, Try.f67, go_sem, d1, d2, d3]
set_option maxHeartbeats 800000 in
theorem fetch_Done_none (h : NoFetch w p) : Calls Try.prog 73 #[.pointer p] w fun e W => e = .returned (.tuple #[.slice none 0 0, .bool false]) ∧ Kept w W := by
  have HG := fetch_Ask_none h
  unfold askV at HG
  have HX := Lib.hid h
  clear h
  go_enter Try.func73, Try.ntmps73
  go_wp2_with fail
  refine HG.mono ?_
  clear HG
  rintro e w2 ⟨rfl, hu⟩
  have h2 := HX.out.kept hu
  have HF := Lib.hid hu
  clear HX hu
  go_wp2_with fail
  refine (fetch_none_no h2).mono ?_
  rintro e W ⟨rfl, rfl⟩
  go_wp2
  go_ret2
  exact ⟨rfl, HF.out⟩
set_option maxHeartbeats 800000 in
theorem fetch_Parts_none (h : NoFetch w p) (l q : Int) (x : Value) : Calls Try.prog 69 #[.pointer p, .int .i64 l, .int .i64 q, x] w fun e W => e = .returned (.int .i64 1) ∧ Kept w W := by
  have k1 : Kept w (w.alloc (.cells #[.int .i64 l, .int .i64 q] 154)) := (Upd.refl _ w).alloc _
  have HK := Lib.hid k1
  have h1 := h.kept k1
  clear h k1
  go_enter Try.func69, Try.ntmps69
  go_wp2_with fail
  refine (fetch_none_no (h1)).mono ?_
  rintro e W ⟨rfl, rfl⟩
  go_wp2
  go_ret
  exact ⟨rfl, HK.out⟩
set_option maxHeartbeats 800000 in
theorem fetch_Leaf_none (h : NoFetch w p) (q : Int) (x : Value) : Calls Try.prog 68 #[.pointer p, .int .i64 q, x] w fun e W => e = .returned (.int .i64 1) ∧ Kept w W := by
  have k1 : Kept w (w.alloc (.cells #[.int .i64 0, .int .i64 q] 154)) := (Upd.refl _ w).alloc _
  have HK := Lib.hid k1
  have h1 := h.kept k1
  clear h k1
  go_enter Try.func68, Try.ntmps68
  go_wp2_with fail
  refine (fetch_none_no (h1)).mono ?_
  rintro e W ⟨rfl, rfl⟩
  go_wp2
  go_ret
  exact ⟨rfl, HK.out⟩
set_option maxHeartbeats 800000 in
set_option maxRecDepth 20000 in
theorem fetch_Root_none (h : NoFetch w p) : Calls Try.prog 72 #[.pointer p] w fun e W => e = .returned (.agg (dA dig0)) ∧ Kept w W := by
  have hr1 : Blk (w.alloc (.cells (dA dig0) 46)) w.heap.size 46 (encB dig0.1) := Blk.new w _ _
  have hk1 : Kept w (w.alloc (.cells (dA dig0) 46)) := (Upd.refl _ w).alloc _
  generalize hW1 : w.alloc (.cells (dA dig0) 46) = w1 at *
  have h1 := h.kept hk1
  obtain ⟨e1, e2, e3⟩ := dig_end dig0 hr1
  have HY : Hid (Kept w (w1.setRow w.heap.size (dA dig0)) ∧ segB (w1.setRow w.heap.size (dA dig0)) ⟨w.heap.size, 0, none⟩ 32 = true ∧ segV (w1.setRow w.heap.size (dA dig0)) ⟨w.heap.size, 0, none⟩ 32 = dA dig0) := ⟨Upd.setRow hk1 _ _ (fun h => absurd h (Nat.lt_irrefl _)), e2, e3⟩
  clear e2 e3 h hk1 hr1
  go_enter Try.func72, Try.ntmps72
  go_wp2_with fail
  refine (fetch_none_no (h1)).mono ?_
  rintro e W ⟨rfl, rfl⟩
  go_wp2
  refine bodyPost_ret (v := .agg (dA dig0)) ?_ rfl ⟨rfl, HY.out.1⟩
  rw [results_seg (P := Try.prog) (fn := Try.f72) (p := 2) (ty := 46) rfl _ _ ⟨w.heap.size, 0, none⟩ 32 _ rfl Try.underlying46 rfl sizeOf46 HY.out.2.1, HY.out.2.2]
end

/-! ### zero values -/
def bookA : Array Value := #[.map none, .map none, .int .i64 0]
@[go_sem ↓] theorem exec_build_book0 (ρ : Operand → Value) (dst : Option Tmp) (parts : Array (Nat × Operand)) (ty : TypeId) (pos : String) (after : Array Edge) (guard : Option (Nat × Bool)) :
    execOp ρ ⟨dst, .build 125 parts, ty, pos, after, guard⟩ = buildRow 125 (parts.map fun (i, x) => (i, ρ x)) := rfl
@[go_sem] theorem run_build_book0 (W : World) : (buildRow 125 #[]).run Try.prog W = .ok (.value (.agg bookA)) W := by
  have H := run_build (P := Try.prog) W 125 #[] bookA (by kernel_rfl)
  simp [buildRow, H, Result.andThen]
def fetZ : Array Value := (.pointer none :: (encB dig0.1 ++ [.slice none 0 0, .map none, .map none, .slice none 0 0, .slice none 0 0])).toArray
@[go_sem] theorem run_build_fet0 (W : World) : (buildRow 131 #[]).run Try.prog W = .ok (.value (.agg fetZ)) W := by
  have H := run_build (P := Try.prog) W 131 #[] fetZ (by kernel_rfl)
  simp [buildRow, H, Result.andThen]
theorem fetZ_none (W : World) : NoFetch (W.alloc (.cells fetZ 131)) (some ⟨W.heap.size, 0, none⟩) := .inr ⟨_, rfl, by
  rw [cell_of_row _ W.heap.size 34 _ _ _ (heap_alloc_new W _)]; rfl⟩
def dig1 : Dig := ⟨1 :: List.replicate 31 0, by simp⟩
theorem dA_dig1 : dA dig1 = (.int .u8 1 :: List.replicate 31 (.int .u8 0)).toArray := by
  have e0 : ((0 : UInt8).toNat : Int) = 0 := rfl
  have e1 : ((1 : UInt8).toNat : Int) = 1 := rfl
  simp only [dA, dig1, encB, List.map_cons, List.map_replicate, e0, e1]
@[go_sem] theorem run_build_dig1 (W : World) : (buildRow 46 #[(0, .int .u8 1)]).run Try.prog W = .ok (.value (.agg (dA dig1))) W := by
  have h := run_build (P := Try.prog) W 46 #[(0, .int .u8 1)] _ (by kernel_rfl : _ = some (.int .u8 1 :: List.replicate 31 (.int .u8 0)).toArray)
  simp [buildRow, h, Result.andThen, dA_dig1]
theorem leaf7_dig1 : leafM shaM [7] ≠ dig1 := by decide +kernel

/-! ### numbers -/
theorem k6 : kidsM 6 1 0 = 2 := rfl
theorem sz6 : sizeL 6 (2 : Int).toNat = 1 ∧ sizeL 6 (1 : Int).toNat = 2 := ⟨rfl, rfl⟩
def sF (rt : Dig) : KM × BM := (putK (fun _ _ => none) 2 0 rt, fun _ => none)
theorem begS6 (rt : Dig) : begS 6 none rt = sF rt := by
  unfold begS
  rw [learnM_none, depthM6]; rfl
theorem sF_lacks20 (rt : Dig) : lacksM (sF rt) 2 0 = true := by
  rw [lacks_up]
  unfold sF
  dsimp only
  rw [putK_self, putK_ne _ _ (by decide)]; rfl
theorem sF_lacks10 (rt : Dig) : lacksM (sF rt) 1 0 = false := by
  rw [lacks_up]
  unfold sF
  dsimp only
  rw [putK_ne _ _ (by decide)]; rfl
theorem sF_lacks05 (rt : Dig) : lacksM (sF rt) 0 5 = false := by
  rw [lacks_leaf]
  unfold sF
  dsimp only
  rw [putK_ne _ _ (by decide)]; rfl
section
variable {s : KM × BM} {D : List Dig} {R : Bytes}
theorem pE_out {lv pl : Int} (h : ¬ (1 ≤ lv ∧ lv < depthM 6 ∧ 0 ≤ pl ∧ pl < sizeL 6 lv.toNat)) : partsE 6 s lv pl D = 9 := by unfold partsE; rw [if_pos h]
theorem pE_00 : partsE 6 s 0 0 D = 9 := pE_out (by omega)
theorem pE_30 : partsE 6 s 3 0 D = 9 := pE_out (by rw [depthM6]; omega)
theorem pE_21 : partsE 6 s 2 1 D = 9 := pE_out (by rw [sz6.1]; omega)
theorem pE_12 : partsE 6 s 1 2 D = 9 := pE_out (by rw [sz6.2]; omega)
theorem pE_1m : partsE 6 s 1 (-1) D = 9 := pE_out (by omega)
theorem pE_10 (rt : Dig) : partsE 6 (sF rt) 1 0 D = 220 := partsE_no (n := 6) (lv := 1) (p := 0) (by omega) (by rw [depthM6]; omega) (by rw [size6.2.1]; omega) (sF_lacks10 rt)
theorem lE_6 : leafE 6 s 6 R = 9 := by unfold leafE; rw [if_pos (by omega)]
theorem lE_m : leafE 6 s (-1) R = 9 := by unfold leafE; rw [if_pos (by omega)]
theorem lE_5 (rt : Dig) : leafE 6 (sF rt) 5 R = 220 := leafE_no (n := 6) (p := 5) (by omega) (sF_lacks05 rt)
theorem sF_k (rt : Dig) : (sF rt).1 2 0 = some rt := by
  unfold sF
  dsimp only
  exact putK_self _ _ _ _
theorem pE_20 (rt : Dig) : partsE 6 (sF rt) 2 0 D = if D.length ≠ 2 then 2 else if upM shaM D = rt then 0 else 100 :=
  partsE_is (n := 6) (lv := 2) (p := 0) (by omega) (by rw [depthM6]; omega) (by rw [size6.2.2]; omega) (sF_lacks20 rt) (sF_k rt)
theorem pS_20 (rt : Dig) (h : partsE 6 (sF rt) 2 0 D = 0) (hD : D.length = 2) : partsS 6 none (sF rt) 2 0 D = partsK 6 none 1 0 D 2 (sF rt) := by
  unfold partsS
  rw [h, if_pos rfl, hD]; rfl
theorem sG_lacks (rt : Dig) (D : List Dig) : lacksM (partsK 6 none 1 0 D 2 (sF rt)) 2 0 = false ∧ askM 6 (partsK 6 none 1 0 D 2 (sF rt)) = some (1, 0) := by
  have h1 : ((partsK 6 none 1 0 D 2 (sF rt)).1 1 0).isSome = true := by
    rw [partsK_succ, partsK_succ, partsK_zero, learnM_none, learnM_none]
    dsimp only
    rw [putK_ne _ _ (by decide), putK_self]; rfl
  have h0 : ((partsK 6 none 1 0 D 2 (sF rt)).1 0 0).isNone = true := by
    rw [partsK_succ, partsK_succ, partsK_zero, learnM_none, learnM_none]
    dsimp only
    rw [putK_ne _ _ (by decide), putK_ne _ _ (by decide)]
    unfold sF
    dsimp only
    rw [putK_ne _ _ (by decide)]; rfl
  have e1 : lacksM (partsK 6 none 1 0 D 2 (sF rt)) 2 0 = false := by
    rw [lacks_up, Nat.mul_zero, none_of h1, Bool.and_false]
  refine ⟨e1, ?_⟩
  have e2 : lacksM (partsK 6 none 1 0 D 2 (sF rt)) 1 0 = true := by rw [lacks_up, h1]; exact h0
  rw [ask6, e1, e2]; rfl
theorem pE_again (rt : Dig) (D E : List Dig) : partsE 6 (partsK 6 none 1 0 D 2 (sF rt)) 2 0 E = 220 :=
  partsE_no (n := 6) (lv := 2) (p := 0) (by omega) (by rw [depthM6]; omega) (by rw [size6.2.2]; omega) (sG_lacks rt D).1
theorem ask1 (rt : Dig) : askM 1 (begS 1 none rt) = some (0, 0) := by
  have hb : begS 1 none rt = (putK (fun _ _ => none) 0 0 rt, fun _ => none) := by
    unfold begS
    rw [learnM_none, depthM_one]
  rw [hb]
  unfold askM
  rw [depthM_one]
  rfl
theorem lE_1 (rt : Dig) (R : Bytes) : leafE 1 (begS 1 none rt) 0 R = if 65536 ≤ R.length then 5 else if leafM shaM R = rt then 0 else 100 := by
  have hb : begS 1 none rt = (putK (fun _ _ => none) 0 0 rt, fun _ => none) := by
    unfold begS
    rw [learnM_none, depthM_one]
  rw [hb]
  exact leafE_is (n := 1) (p := 0) (by omega) rfl (by dsimp only; exact putK_self _ _ _ _)
end
theorem top_swap : upM shaM [digL six 1 1, digL six 1 0] ≠ digL six 2 0 := by
  rw [(dig6 six rfl).2.2, d6a, d6b]
  decide +kernel
theorem top_kids : kidsB six 1 0 = [digL six 1 0, digL six 1 1] ∧ upM shaM [digL six 1 0, digL six 1 1] = digL six 2 0 := by
  refine ⟨?_, (dig6 six rfl).2.2.symm⟩
  rw [kidsB, kidsD, List.length_map, show kidsM six.length 1 0 = 2 from rfl]; rfl
end Go.Proofs.Ytnncpjekcljfbaa
/- The whole leaves known before: nothing is asked; the high five of six leaves; two digests in a row. -/
namespace Go.Proofs.Ytnncpjekcljfbaa
open Go.RowKit

theorem old_self (ls : List Bytes) : OldOk ls (some ls) := by
  intro hs h l p _ _ _
  simp only [Option.some.injEq] at h
  subst h
  exact ⟨fun _ _ _ => rfl, fun _ _ => rfl⟩
theorem whole_six {rt : Dig} (h : rt = digL six 2 0) : askM 6 (begS 6 (some six) rt) = none ∧ bytesM 6 (begS 6 (some six) rt).2 = six := by
  have hr : Real six (begS 6 (some six) rt) := by
    have h1 := real_beg (old_self six) (show 1 ≤ six.length by decide)
    rw [show six.length = 6 from rfl, depthM6, show (3 - 1 : Nat) = 2 from rfl, ← h] at h1
    exact h1
  have ha : askM 6 (begS 6 (some six) rt) = none := by
    cases hx : askM 6 (begS 6 (some six) rt) with
    | none => rfl
    | some x =>
      exfalso
      obtain ⟨l, p⟩ := x
      obtain ⟨h1, h2, h3, h4⟩ := askM_some hx
      obtain ⟨d, hd⟩ := Option.isSome_iff_exists.1 h3
      have h5 := hit_beg (n := 6) (O := some six) (by omega) rt six rfl l p d h1 hd (by rw [oldAt_eq]; exact (hr.k l p d hd).symm)
      rw [h5] at h4
      exact Bool.noConfusion h4
  exact ⟨ha, done_real (ls := six) hr (good_beg (n := 6) (by omega) rt) (by decide) ha⟩
theorem slice_six5 (W : World) (A : Option Addr) : (Instr.sliceAt 52 (.slice A 6 6) none (some (.int .i64 5)) none).run Try.prog W = .ok (.slice A 5 6) W := by
  have he : Try.prog.elem 52 = 35 := by kernel_rfl
  have ht : Try.prog.underlying 52 = some (.slice (Try.prog.elem 52)) := by rw [he]; exact Try.underlying52
  have := run_slice_h (P := Try.prog) (w := W) 52 A 6 6 ht .i64 (5 : Int) (by omega) (by omega)
  rw [run_sliceAt_slice (h := ht), this, he]
  simp only [Result.andThen, sliced]
  cases A with
  | none => simp
  | some a =>
    have h0 : a.add 0 = a := by unfold Addr.add; split <;> simp_all
    simp [h0]
@[go_sem ↓] theorem exec_two_dg (ρ : Operand → Value) (dst : Option Tmp) (parts : Array (Nat × Operand)) (ty : TypeId) (pos : String) (after : Array Edge) (guard : Option (Nat × Bool)) :
    execOp ρ ⟨dst, .buildSlice 41 2 parts, ty, pos, after, guard⟩ = sliceRow 41 2 (parts.map fun (i, x) => (i, ρ x)) := rfl
theorem shared {G : Prop} (S : World → Prop) {F : Value → Value → World → Prop} (main : (∀ x y W, S W → F x y W) → G) (rest : ∀ x y W, S W → F x y W) : G := main rest
theorem bookA_no (W : World) : NoBook (W.alloc (.cells bookA 125)) (some ⟨W.heap.size, 0, none⟩) :=
  .inr ⟨_, rfl, by rw [cell_of_row _ W.heap.size 0 _ _ _ (heap_alloc_new W _)]; rfl⟩
theorem long_six {l : List (SlC × Bytes)} (h : l.map (·.2) = six) : longB l = false := longB_false fun k hk => six_len _ (by rw [← h]; exact List.mem_map_of_mem (List.getElem_mem hk))
theorem leaves_one {W : World} {x : SlC} {R : Bytes} (h : LeafAt W x R) (hR : R.length ≤ 140737488351232) : LeavesAt (W.alloc (.cells (slA x) 35)) (some ⟨W.heap.size, 0, none⟩) [(x, R)] := by
  have hk : Kept W (W.alloc (.cells (slA x) 35)) := (Upd.refl _ W).alloc _
  intro i hi
  obtain rfl : i = 0 := by simpa using hi
  exact ⟨W.heap.size, 0, rfl, by rw [cell_of_row _ W.heap.size 0 _ _ _ (heap_alloc_new W _)]; rfl, h.kept hk, hR⟩
theorem dg_info : (Try.prog.info? 46).map (fun i => (i.size, i.zero)) = some (32, some (.agg (dA dig0))) := by kernel_rfl
@[go_sem] theorem run_two_dg (d e : Dig) (W : World) : (sliceRow 41 2 #[(0, .agg (dA d)), (1, .agg (dA e))]).run Try.prog W = .ok (.value (.slice (some ⟨W.heap.size, 0, none⟩) 2 2)) (W.alloc (.cells (rowsOf dA [d, e]).toArray 46)) := by
  obtain ⟨i, hi, h2⟩ := Option.map_eq_some_iff.1 dg_info
  simp only [Prod.mk.injEq] at h2
  have hf := Go.Great.fill_whole (s := 32) (by omega) [.agg (dA d), .agg (dA e)] ((Array.range (2 * i.size)).map ((Value.agg (dA dig0)).cells[· % (Value.agg (dA dig0)).cells.size]!)) (by
    intro v hv
    simp only [List.mem_cons, List.not_mem_nil, or_false] at hv
    rcases hv with rfl | rfl <;> exact dA_size _) (by rw [h2.1]; simp)
  have h := run_buildSlice (P := Try.prog) W 41 46 2 #[(0, .agg (dA d)), (1, .agg (dA e))] (rowsOf dA [d, e]).toArray i (.agg (dA dig0)) Try.underlying41 hi h2.2 (by rw [h2.1]; omega) (by rw [h2.1]; decide) (by
    rw [show (fun j : Nat => some (j * i.size, i.size)) = (fun j : Nat => some (j * 32, 32)) by rw [h2.1]]
    exact hf)
  simp only [sliceRow, Sem.run_bind, h, Result.andThen_ok, Sem.run_pure]
theorem two_dg_at {W W' : World} (d e : Dig) (h : W' = W.alloc (.cells (rowsOf dA [d, e]).toArray 46)) : Digs W' (some ⟨W.heap.size, 0, none⟩) [d, e] := by
  subst h
  have ho : OwnD (W.alloc (.cells (rowsOf dA [d, e]).toArray 46)) W.heap.size (.slice (some ⟨W.heap.size, 0, none⟩) 2 2) [d, e] :=
    ⟨by simp [rowsOf, dA_size], .inr ⟨W.heap.size, 2, (rowsOf dA [d, e]).toArray, rfl, Nat.le_refl _, heap_alloc_new W _, Nat.le_refl _, by unfold maxLen; omega, by simp [rowsOf, dA_size], by rw [List.take_of_length_le (by simp [rowsOf, dA_size])]⟩⟩
  obtain ⟨A', c', he, -, hd⟩ := OwnD.digs ho
  simp only [Value.slice.injEq] at he
  obtain ⟨rfl, -, -⟩ := he
  exact hd
theorem OwnRows.dull {W W' : World} {α : Type} {fA : α → Array Value} {k B : Nat} {ty : TypeId} {v : Value} {xs : List α} {S : Nat → Prop} (h : OwnRows fA k W B ty v xs) (ht : ty ≠ 125) (hd : Dull W S) (hu : Upd S W W') : OwnRows fA k W' B ty v xs := by
  refine OwnRows.upd h hu (fun j hj => ?_)
  rcases h.2 with ⟨rfl, _⟩ | ⟨g, cap, cur, rfl, hb, hg, _⟩
  · simp [Value.ownBlock] at hj
  · have hjj : g = j := by simpa [Value.ownBlock] using hj
    subst hjj
    exact hd _ _ _ _ hg ht
section
variable {w0 W : World} {b r q lo hi t : Nat} {L : List Bytes} {v : Value} {lv : List (SlC × Bytes)} {B f m1 m2 gs cs : Nat} {root : Dig} {s : KM × BM} {hv ov : Value} {A : Option Addr}
theorem FW.dull (h : FW w0 W b r q lo hi t L v lv B f m1 m2 root none s gs cs hv ov) : Dull W (fun k => Book3 b r q k ∨ Maps2 m1 m2 k) :=
  (Dull.book h.mad.ink.book).or (Dull.maps h.fet.k.map h.fet.m.map)
theorem fk_Parts (h : FW w0 W b r q lo hi t L v lv B f m1 m2 root none s gs cs hv ov) (h6 : lv.length = 6) (l p : Int) {D : List Dig} {m : Nat} (c : Nat) (hD : Digs W A D) (hm : D.length = m) {z : Int} (hE : partsE 6 s l p D = z) {s' : KM × BM} (hS : partsS 6 none s l p D = s') :
    Calls Try.prog 69 #[.pointer (some ⟨f, 0, none⟩), .int .i64 l, .int .i64 p, .slice A m c] W fun e W' => e = .returned (.int .i64 z) ∧ (∃ L', FW w0 W' b r q lo hi t L' v lv B f m1 m2 root none s' gs cs hv ov) ∧ (∀ x E, OwnD W 0 x E → OwnD W' 0 x E) := by
  subst hm
  have HG := fw_Parts h l p c hD
  rw [h6, hE, hS] at HG
  refine HG.mono ?_
  rintro e W' ⟨rfl, ⟨L', hF, -, -⟩, hu⟩
  exact ⟨rfl, ⟨L', hF⟩, fun x E ho => OwnRows.dull ho (by decide) h.dull hu⟩
theorem fk_Leaf (h : FW w0 W b r q lo hi t L v lv B f m1 m2 root none s gs cs hv ov) (h6 : lv.length = 6) (p : Int) {R : Bytes} {m : Nat} (c : Nat) (hR : Byt W A R) (hm : R.length = m) (hl : R.length ≤ 140737488351232) {z : Int} (hE : leafE 6 s p R = z) (hz : z ≠ 0) :
    Calls Try.prog 68 #[.pointer (some ⟨f, 0, none⟩), .int .i64 p, .slice A m c] W fun e W' => e = .returned (.int .i64 z) ∧ (∃ L', FW w0 W' b r q lo hi t L' v lv B f m1 m2 root none s gs cs hv ov) ∧ (∀ x E, OwnD W 0 x E → OwnD W' 0 x E) := by
  subst hm
  have HG := fw_Leaf h p c hR hl
  rw [h6, leafS_ne (by rw [hE]; exact hz), hE] at HG
  refine HG.mono ?_
  rintro e W' ⟨rfl, ⟨L', hF, -, -⟩, hu⟩
  exact ⟨rfl, ⟨L', hF⟩, fun x E ho => OwnRows.dull ho (by decide) h.dull hu⟩
theorem own_digs {W : World} {B m c : Nat} {A : Option Addr} {D : List Dig} (h : OwnD W B (.slice A m c) D) : Digs W A D := by
  obtain ⟨A', c', he, -, hd⟩ := OwnD.digs h
  simp only [Value.slice.injEq] at he
  obtain ⟨rfl, -, -⟩ := he
  exact hd
theorem own_seg {W : World} {B m c g : Nat} {D : List Dig} (h : OwnD W B (.slice (some ⟨g, 0, none⟩) m c) D) {k : Nat} (hk : k < D.length) : segB W ⟨g, k * 32, none⟩ 32 = true ∧ segV W ⟨g, k * 32, none⟩ 32 = dA D[k] := by
  obtain ⟨g', c', hv', -, -, s1, s2⟩ := OwnRows.get dA_size h hk
  simp only [Value.slice.injEq, Option.some.injEq, Addr.mk.injEq] at hv'
  obtain ⟨⟨rfl, -⟩, -, -⟩ := hv'
  exact ⟨s1, s2⟩
theorem digs_take {W : World} {A : Option Addr} {x y : Dig} (h : Digs W A [x, y]) : Digs W A [x] := by
  have h1 := Byt.take (show Byt W A (flatD [x, y]) from h) 32
  have h2 : (flatD [x, y]).take 32 = flatD [x] := by
    have hx := x.2
    simp [flatD, hx]
  rw [h2] at h1
  exact h1
theorem askF (rt : Dig) : askM 6 (sF rt) = some (2, 0) := by rw [ask6, sF_lacks20]; rfl
theorem one_Leaf {w0 W : World} {b r q lo hi t : Nat} {L : List Bytes} {v : Value} {lv : List (SlC × Bytes)} {B f m1 m2 gs cs : Nat} {rt : Dig} {hv ov : Value} {A : Option Addr}
    (hM : Mad w0 W b r q lo hi t L v lv) (hF : FetI W B f m1 m2 b r q 1 rt none (begS 1 none rt) gs cs hv ov) (hB : w0.heap.size ≤ B) {R : Bytes} {m : Nat} (c : Nat) (hR : Byt W A R) (hm : R.length = m) (hl : R.length ≤ 140737488351232) {z : Int} (hE : leafE 1 (begS 1 none rt) 0 R = z) (hz : z ≠ 0) :
    Calls Try.prog 68 #[.pointer (some ⟨f, 0, none⟩), .int .i64 0, .slice A m c] W fun e W' => e = .returned (.int .i64 z) ∧ (∃ L', Mad w0 W' b r q lo hi t L' v lv) ∧ FetI W' B f m1 m2 b r q 1 rt none (begS 1 none rt) gs cs hv ov := by
  subst hm
  have HG := fetch_Leaf hF hM.ink.book 0 c hR hl
  rw [leafS_ne (by rw [hE]; exact hz), hE] at HG
  refine HG.mono ?_
  rintro e W' ⟨rfl, ⟨L', hb, hs, -⟩, hF', hu⟩
  exact ⟨rfl, ⟨L', hM.step hb hs hu ((Dull.book hM.ink.book).or (Dull.map hF.m.map)) (fun k hk => hk.elim .inl (fun e => .inr (by have := hF.b2; omega)))⟩, hF'⟩
end
end Go.Proofs.Ytnncpjekcljfbaa
