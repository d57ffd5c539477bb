/- tree: group, above. -/
import Derived.Test.YtjimamgghkgdeaaTreeB
namespace Go.Proofs.Ytjimamgghkgdeaa
open Go.RowKit

set_option maxHeartbeats 1000000 in
set_option maxRecDepth 20000 in
theorem tree_Up_no {w : World} {p A : Option Addr} {n : Nat} (c : Nat) (hn : n < 1 ∨ 4 < n) :
    Calls Try.prog 19 #[.pointer p, .slice A n c] w fun e W => e = .returned (.tuple #[.agg (dA dig0), .int .i64 2]) ∧ Kept w W := by
  have hr1 : Blk (w.alloc (.cells (dA dig0) 40)) w.heap.size 40 (encB dig0.1) := Blk.new w _ _
  have hk1 : Kept w (w.alloc (.cells (dA dig0) 40)) := (Upd.refl _ w).alloc _
  generalize hW1 : w.alloc (.cells (dA dig0) 40) = w1 at *
  obtain ⟨hrb, hs1, hs2⟩ := dig_end dig0 hr1
  have HF : Hid (Kept w (w1.setRow w.heap.size (dA dig0)) ∧ segB (w1.setRow w.heap.size (dA dig0)) ⟨w.heap.size, 0, none⟩ 32 = true ∧ segV (w1.setRow w.heap.size (dA dig0)) ⟨w.heap.size, 0, none⟩ 32 = dA dig0) := ⟨Upd.setRow hk1 _ _ (fun h => absurd h (Nat.lt_irrefl _)), hs1, hs2⟩
  clear hr1 hk1 hs1 hs2
  rcases hn with hn | hn
  · have hd1 : decide ((n : Int) < 1) = true := by rw [decide_eq_true_iff]; omega
    clear hn
    go_enter Try.func19, Try.ntmps19
    go_wp2
    refine bodyPost_ret (v := .tuple #[.agg (dA dig0), .int .i64 2]) ?_ rfl ⟨rfl, HF.out.1⟩
    rw [results_seg2 (P := Try.prog) (fn := Try.f19) (p := 4) (t := 5) (ty := 40) rfl _ _ ⟨w.heap.size, 0, none⟩ 32 _ (.int .i64 2) rfl rfl Try.underlying40 rfl sizeOf40 HF.out.2.1, HF.out.2.2]
  · have hd1 : decide ((n : Int) < 1) = false := by rw [decide_eq_false_iff_not]; omega
    have hd2 : decide ((4 : Int) < (n : Int)) = true := by rw [decide_eq_true_iff]; omega
    clear hn
    go_enter Try.func19, Try.ntmps19
    go_wp2
    refine bodyPost_ret (v := .tuple #[.agg (dA dig0), .int .i64 2]) ?_ rfl ⟨rfl, HF.out.1⟩
    rw [results_seg2 (P := Try.prog) (fn := Try.f19) (p := 4) (t := 5) (ty := 40) rfl _ _ ⟨w.heap.size, 0, none⟩ 32 _ (.int .i64 2) rfl rfl Try.underlying40 rfl sizeOf40 HF.out.2.1, HF.out.2.2]

theorem ds_elem : Try.prog.elem 35 = 40 := by kernel_rfl
theorem dig_sizeOf (W : World) : (sizeOf 40).run Try.prog W = .ok 32 W := by
  obtain ⟨i, hi, h2⟩ := Option.map_eq_some_iff.1 sizeOf40
  simp [sizeOf, typeInfo, hi, h2]
theorem slice_digs_lh (W : World) (A : Option Addr) (len cap l h : Nat) (Li Hi : Int) (hL : Li = l) (hH : Hi = h) (h1 : l ≤ h) (h2 : h ≤ cap) (h3 : l < cap) :
    (Instr.sliceAt 35 (.slice A len cap) (some (.int .i64 Li)) (some (.int .i64 Hi)) none).run Try.prog W = .ok (.slice (A.map (·.add (l * 32))) (h - l) (cap - l)) W := by
  subst hL hH
  have ht : Try.prog.underlying 35 = some (.slice (Try.prog.elem 35)) := by rw [ds_elem]; exact Try.underlying35
  have := run_slice_lh (P := Try.prog) (w := W) 35 A len cap ht .i64 .i64 (l : Int) (h : Int) (by omega) (by omega) (by omega)
  rw [run_sliceAt_slice (h := ht), this, ds_elem, dig_sizeOf]
  simp only [Result.andThen, sliced, Int.toNat_natCast]
  rw [if_neg (by omega)]

theorem flatD_drop (D : List Dig) (k : Nat) : flatD (D.drop k) = (flatD D).drop (k * 32) := by
  induction k generalizing D with
  | zero => simp
  | succ k ih =>
    cases D with
    | nil => simp [flatD]
    | cons d D =>
      rw [List.drop_succ_cons, ih, show flatD (d :: D) = d.1 ++ flatD D by simp [flatD]]
      apply List.ext_getElem?
      intro j
      rw [List.getElem?_drop, List.getElem?_drop, List.getElem?_append_right (by rw [d.2]; omega), d.2]
      congr 1; omega
theorem flatD_take (D : List Dig) (k : Nat) : flatD (D.take k) = (flatD D).take (k * 32) := by
  induction k generalizing D with
  | zero => simp [flatD]
  | succ k ih =>
    cases D with
    | nil => simp [flatD]
    | cons d D =>
      have h1 : List.take ((k + 1) * 32) d.1 = d.1 := List.take_of_length_le (by rw [d.2]; omega)
      rw [List.take_succ_cons, show flatD (d :: D.take k) = d.1 ++ flatD (D.take k) by simp [flatD], ih, show flatD (d :: D) = d.1 ++ flatD D by simp [flatD], List.take_append, h1, d.2]
      congr 2; omega
/-- part of a row of digests -/
theorem Digs.part {W : World} {A : Option Addr} {D : List Dig} (h : Digs W A D) (k n : Nat) : Digs W (A.map (·.add (k * 32))) ((D.drop k).take n) := by
  rcases h with h0 | ⟨b, off, rfl, h⟩
  · left
    rw [flatD_take, flatD_drop, h0]; simp
  · refine .inr ⟨b, off + k * 32, by rw [Option.map_some, add_none], fun j v hv => ?_⟩
    rw [Nat.add_assoc]
    refine h _ v ?_
    rw [flatD_take, flatD_drop, encB_take, encB_drop] at hv
    have hj := (List.getElem?_eq_some_iff.1 hv).1
    rw [List.getElem?_take_of_lt (by rw [List.length_take] at hj; omega), List.getElem?_drop] at hv
    exact hv

set_option maxRecDepth 20000 in
theorem tree_group {w : World} {A : Option Addr} {D : List Dig} (c i : Nat) (hc : D.length ≤ c) (hi : 4 * i < D.length) (hl : D.length ≤ 100000) :
    Calls Try.prog 48 #[.slice A D.length c, .int .i64 i] w fun e W => e = .returned (.slice (A.map (·.add ((4 * i) * 32))) (group D i).length (c - 4 * i)) ∧ w = W := by
  have hg : (group D i).length = min (4 * i + 4) D.length - 4 * i := by rw [group_length]; omega
  rw [hg]
  rcases Nat.lt_or_ge D.length (4 * i + 4) with h1 | h1
  rotate_left
  · have hsl : ∀ W, (Instr.sliceAt 35 (.slice A D.length c) (some (.int .i64 (4 * (i : Int)))) (some (.int .i64 (4 * (i : Int) + 4))) none).run Try.prog W = .ok (.slice (A.map (·.add ((4 * i) * 32))) (min (4 * i + 4) D.length - 4 * i) (c - 4 * i)) W := fun W => by
      have := slice_digs_lh W A D.length c (4 * i) (4 * i + 4) (4 * (i : Int)) (4 * (i : Int) + 4) (by omega) (by omega) (by omega) (by omega) (by omega)
      rwa [show min (4 * i + 4) D.length = 4 * i + 4 by omega]
    have h1' : 4 * (i : Int) + 4 ≤ (D.length : Int) := by omega
    have h2' : (D.length : Int) ≤ 100000 := by omega
    generalize D.length = n at *
    generalize A.map (·.add ((4 * i) * 32)) = A' at *
    generalize min (4 * i + 4) n - 4 * i = m at *
    clear hg hc hi hl h1
    go_enter Try.func48, Try.ntmps48
    go_wp2
    go_ret
    exact ⟨rfl, rfl⟩
  · rw [show min (4 * i + 4) D.length = D.length by omega]
    have hsl : ∀ W, (Instr.sliceAt 35 (.slice A D.length c) (some (.int .i64 (4 * (i : Int)))) (some (.int .i64 (D.length : Int))) none).run Try.prog W = .ok (.slice (A.map (·.add ((4 * i) * 32))) (D.length - 4 * i) (c - 4 * i)) W := fun W =>
      slice_digs_lh W A D.length c (4 * i) D.length (4 * (i : Int)) (D.length : Int) (by omega) (by omega) (by omega) (by omega) (by omega)
    have h1' : (D.length : Int) < 4 * (i : Int) + 4 := by omega
    have h2' : (D.length : Int) ≤ 100000 := by omega
    have h3' : 4 * (i : Int) < (D.length : Int) := by omega
    generalize D.length = n at *
    clear hg hc hi hl h1
    go_enter Try.func48, Try.ntmps48
    go_wp2
    go_ret
    exact ⟨rfl, rfl⟩

/-- a digest appended to a row of the call's own -/
theorem dig_rows : RowType Try.prog dA 32 35 40 32 where
  size := dA_size
  one := dA_one
  slice := Try.underlying35
  info := ⟨.agg (dA dig0), by kernel_rfl, by simp [Value.cells]⟩
  pos := by omega
@[go_sem ↓] theorem exec_one_dig (ρ : Operand → Value) (dst : Option Tmp) (parts : Array (Nat × Operand)) (ty : TypeId) (pos : String) (after : Array Edge) (guard : Option (Nat × Bool)) :
    execOp ρ ⟨dst, .buildSlice 35 1 parts, ty, pos, after, guard⟩ = sliceRow 35 1 (parts.map fun (i, x) => (i, ρ x)) := rfl
@[go_sem] theorem run_one_dig (d : Dig) (W : World) : (sliceRow 35 1 #[(0, .agg (dA d))]).run Try.prog W = .ok (.value (.slice (some ⟨W.heap.size, 0, none⟩) 1 1)) (W.alloc (.cells (dA d) 40)) :=
  run_sliceRow _ 40 32 (.agg (dA dig0)) _ Try.underlying35 (by kernel_rfl) (by omega) (by omega) (by simp [Value.cells]) (dA_size d) W

theorem rowsOf_dA (D : List Dig) : rowsOf dA D = encB (flatD D) := by
  induction D with
  | nil => rfl
  | cons d D ih =>
    rw [rowsOf_cons, ih, show flatD (d :: D) = d.1 ++ flatD D by simp [flatD], encB_append]
    rfl
/-- a row of digests of the call's own -/
abbrev OwnD (W : World) (B : Nat) (v : Value) (D : List Dig) : Prop := OwnRows dA 32 W B 40 v D
theorem OwnD.digs {W : World} {B : Nat} {v : Value} {D : List Dig} (h : OwnD W B v D) : ∃ A c, v = .slice A D.length c ∧ D.length ≤ c ∧ Digs W A D := by
  rcases h.2 with ⟨rfl, h0⟩ | ⟨g, cap, cur, rfl, hb, hg, h1, h2, h3, h4⟩
  · have hR : D = [] := List.eq_nil_of_length_eq_zero h0
    subst hR
    exact ⟨_, _, rfl, by simp, .inl rfl⟩
  · refine ⟨_, _, rfl, by omega, .inr ⟨g, 0, rfl, fun j u hu => ?_⟩⟩
    rw [cell_of_row W g _ _ _ _ hg, Nat.zero_add]
    rw [rowsOf_dA] at h4
    have hj : j < (encB (flatD D)).length := (List.getElem?_eq_some_iff.1 hu).1
    have : cur[j]? = (cur.toList.take (D.length * 32))[j]? := by rw [List.getElem?_take_of_lt (by rw [encB_length, flatD_length] at hj; omega)]; simp
    rw [this, h4, hu]

/-- what is digested for the level above -/
def aboveIn (D : List Dig) (k : Nat) : List Bytes := (List.range k).map fun i => upIn (group D i)
theorem aboveIn_succ (L : List Bytes) (D : List Dig) (k : Nat) : notesM L (aboveIn D (k + 1)) = noteM (notesM L (aboveIn D k)) (upIn (group D k)) := by
  rw [aboveIn, List.range_succ, List.map_append, notesM_append]; rfl
theorem above_take (D : List Dig) (k : Nat) (h : k < up4 D.length) : (aboveM shaM D).take (k + 1) = (aboveM shaM D).take k ++ [upM shaM (group D k)] := by
  rw [List.take_succ_eq_append_getElem (by simpa using h), aboveM_get]

set_option maxHeartbeats 2000000 in
set_option maxRecDepth 20000 in
theorem tree_above {w : World} {b r q : Nat} {L : List Bytes} (h : BookL w b r q L) {A : Option Addr} {D : List Dig} (c : Nat) (hD : Digs w A D) (hc : D.length ≤ c) (hl : D.length ≤ 1024) :
    Calls Try.prog 59 #[.pointer (some ⟨b, 0, none⟩), .slice A D.length c] w fun e W => ∃ v, e = .returned v ∧ OwnD W w.heap.size v (aboveM shaM D) ∧ BookL W b r q (notesM L (aboveIn D (up4 D.length))) ∧ Upd (Book3 b r q) w W := by
  have HX := Lib.hid (And.intro h (And.intro hD (And.intro hc hl)))
  clear h hD hc hl
  go_enter Try.func59, Try.ntmps59
  go_wp2_with fail
  go_loopw [6, 5] (fun i v wr => ∃ k : Nat, k ≤ up4 D.length ∧ i = .int .i64 (4 * k : Nat) ∧ OwnD wr w.heap.size v ((aboveM shaM D).take k) ∧ BookL wr b r q (notesM L (aboveIn D k)) ∧ Upd (Book3 b r q) w wr) (fun i _ _ => 2000 - (intOf i).toNat)
  case atStart => exact ⟨0, Nat.zero_le _, rfl, OwnRows.nil _ _ _, HX.out.1, Upd.refl _ _⟩
  case round =>
    obtain ⟨k, hk, rfl, hown, hb, hu⟩ := hrel
    rcases Nat.lt_or_ge (4 * k) D.length with hlt | hge
    · have hk' : ((4 * k : Nat) : Int) < (D.length : Int) := by omega
      have hk5 : ((4 * k : Nat) : Int) < 1024 := by have := HX.out.2.2.2; omega
      have hq : ((4 * k : Nat) : Int) / 4 = (k : Int) := by omega
      have hku : k < up4 D.length := by unfold up4; omega
      have HD := Lib.hid (HX.out.1.byt HX.out.2.1 hu)
      have HR := Lib.hid (And.intro hown (And.intro hb hu))
      clear hown hb hu
      obtain ⟨m, hm⟩ : ∃ m, m = 4 * k := ⟨_, rfl⟩
      rw [← hm] at hk' hk5 hq ⊢
      have HMM := Lib.hid hm
      clear hm
      go_wp2_with fail
      refine (tree_group c k HX.out.2.2.1 (by have := HMM.out; omega) (by have := HX.out.2.2.2; omega)).mono ?_
      rintro e w' ⟨rfl, rfl⟩
      go_wp2_with fail
      have hgl : 1 ≤ (group D k).length ∧ (group D k).length ≤ 4 := by rw [group_length]; have := HMM.out; omega
      have hgd : Digs wr (A.map (·.add ((4 * k) * 32))) (group D k) := Digs.part HD.out (4 * k) 4
      refine (tree_Up HR.out.2.1 (c - 4 * k) hgd hgl.1 hgl.2).mono ?_
      rintro e w2 ⟨rfl, hb2, hu2⟩
      have hown2 := OwnRows.upd HR.out.1 hu2 (fun i hi e => by
        have h1 := World.ownsRow.lt HR.out.1 i hi
        have := HX.out.1.lt i e
        omega)
      have hu3 := HR.out.2.2.trans hu2
      have hsz : w.heap.size ≤ w2.heap.size := hu3.size
      obtain ⟨X, hX⟩ : ∃ X, X = upM shaM (group D k) := ⟨_, rfl⟩
      rw [← hX]
      have HT : Hid ((aboveM shaM D).take (k + 1) = (aboveM shaM D).take k ++ [X] ∧ notesM L (aboveIn D (k + 1)) = noteM (notesM L (aboveIn D k)) (upIn (group D k))) := ⟨by rw [above_take D k hku, hX], aboveIn_succ L D k⟩
      clear hX hu2
      have hown3 := hown2.alloc (.cells (dA X) 40)
      have hb3 := hb2.kept ((Upd.refl _ w2).alloc (.cells (dA X) 40))
      have hu4 := hu3.alloc (.cells (dA X) 40)
      have hs3 : segB (w2.alloc (.cells (dA X) 40)) ⟨w2.heap.size, 0, none⟩ 32 = true := segB_new _ _ _ _ _ rfl (dA_size X)
      have hs4 : segV (w2.alloc (.cells (dA X) 40)) ⟨w2.heap.size, 0, none⟩ 32 = dA X := segV_new _ _ _ _ _ rfl (dA_size X)
      have hsz3 : w.heap.size ≤ (w2.alloc (.cells (dA X) 40)).heap.size := by rw [World.size_alloc]; omega
      clear hown2 hb2 hu3 hsz
      generalize hWA : w2.alloc (.cells (dA X) 40) = wa at *
      have hown4 := hown3.alloc (.cells (dA X) 40)
      have hb4 := hb3.kept ((Upd.refl _ wa).alloc (.cells (dA X) 40))
      have hu5 := hu4.alloc (.cells (dA X) 40)
      have hg4 := heap_alloc_new wa (.cells (dA X) 40)
      have hsz4 : w.heap.size ≤ (wa.alloc (.cells (dA X) 40)).heap.size := by rw [World.size_alloc]; omega
      clear hown3 hb3 hu4 hsz3
      generalize hWB : wa.alloc (.cells (dA X) 40) = wb at *
      have HQ := Lib.hid (And.intro hown4 (And.intro hb4 (And.intro hu5 (And.intro hg4 hsz4))))
      have HLN : Hid (((aboveM shaM D).take k).length ≤ 1024) := by
        show _ ≤ _
        rw [List.length_take, aboveM_length]
        have h1 := HX.out.2.2.2
        unfold up4
        omega
      clear hown4 hb4 hu5 hg4 hsz4
      go_wp2_with (at_builtin; refine wpList_append_rows dig_rows rfl (.tmp 24) (.tmp 26) rfl rfl HQ.out.1 X wa.heap.size 1 _ _ rfl HQ.out.2.2.2.1 (by have := HLN.out; unfold maxLen; omega) (by have := HLN.out; omega) HQ.out.2.2.2.2 ?_; intro v' w3 hown' hu' hnew)
      go_roundw
      case rel =>
        refine ⟨k + 1, by omega, ?_, by rw [HT.out.1]; exact hown', ?_, HQ.out.2.2.1.then hu' fun i hi e => ?_⟩
        · show _ = _
          rw [HMM.out]; go_num
        · rw [HT.out.2]
          have hf := World.ownsRow.lt HQ.out.1
          have hlt := HX.out.1.lt
          exact HQ.out.2.1.upd hu' (fun e => by have := (hf _ e).1; have := hlt b (.inl rfl); omega) (fun e => by have := (hf _ e).1; have := hlt r (.inr (.inl rfl)); omega) (fun e => by have := (hf _ e).1; have := hlt q (.inr (.inr rfl)); omega)
        · have := (World.ownsRow.lt HQ.out.1 _ e).1
          omega
      case measure => have h1 := HMM.out; simp [intOf]; omega
    · have hku : k = up4 D.length := by unfold up4 at *; omega
      have hk' : ¬ ((4 * k : Nat) : Int) < (D.length : Int) := by omega
      have HR := Lib.hid (And.intro hown (And.intro hb hu))
      have HK := Lib.hid hku
      clear hown hb hu hku
      generalize 4 * k = m at *
      go_wp2
      go_ret
      refine ⟨_, rfl, ?_, ?_, HR.out.2.2⟩
      · have h1 := HR.out.1
        rw [HK.out, ← aboveM_length (H := shaM) D, List.take_length] at h1
        exact h1
      · have h1 := HR.out.2.1
        rw [HK.out] at h1
        exact h1
end Go.Proofs.Ytjimamgghkgdeaa
