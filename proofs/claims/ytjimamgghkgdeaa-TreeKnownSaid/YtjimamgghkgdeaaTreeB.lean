/- tree: Up, group. -/
import Derived.Test.YtjimamgghkgdeaaTreeA
namespace Go.Proofs.Ytjimamgghkgdeaa
open Go.RowKit

/-! ### digests one behind the other -/
def flatD (D : List Dig) : Bytes := D.flatMap fun d => d.1
/-- digests behind an address -/
def Digs (W : World) (A : Option Addr) (D : List Dig) : Prop := Byt W A (flatD D)
theorem flatD_length (D : List Dig) : (flatD D).length = D.length * 32 := by
  induction D with
  | nil => rfl
  | cons d D ih => rw [flatD, List.flatMap_cons, ← flatD, List.length_append, d.2, ih, List.length_cons]; omega
theorem flatD_get : ∀ (D : List Dig) (k j : Nat) (h : k < D.length), j < 32 → (flatD D)[k * 32 + j]? = (D[k].1)[j]?
  | d :: D, 0, j, _, hj => by
    rw [flatD, List.flatMap_cons, List.getElem?_append_left (by rw [d.2]; omega)]
    simp
  | d :: D, k + 1, j, h, hj => by
    rw [flatD, List.flatMap_cons, ← flatD, List.getElem?_append_right (by rw [d.2]; omega), d.2, show (k + 1) * 32 + j - 32 = k * 32 + j by omega]
    exact flatD_get D k j (by simpa using h) hj
theorem Digs.get {W : World} {A : Option Addr} {D : List Dig} (h : Digs W A D) {k : Nat} (hk : k < D.length) :
    ∃ b off, A = some ⟨b, off, none⟩ ∧ segB W ⟨b, off + k * 32, none⟩ 32 = true ∧ segV W ⟨b, off + k * 32, none⟩ 32 = dA D[k] := by
  rcases h with h0 | ⟨b, off, rfl, h⟩
  · have h1 := flatD_length D
    rw [h0] at h1; simp at h1; omega
  · have hc : ∀ j v, (dA D[k])[j]? = some v → W.cell? ((⟨b, off + k * 32, none⟩ : Addr).add j) = some v := fun j v hv => by
      have hj : j < 32 := by have := (Array.getElem?_eq_some_iff.1 hv).1; rwa [dA_size] at this
      rw [add_none, Nat.add_assoc]
      refine h (k * 32 + j) v ?_
      rw [encB, List.getElem?_map, flatD_get D k j hk hj]
      simpa [dA, encB] using hv
    exact ⟨b, off, rfl, segB_of hc (dA_size _), segV_of hc (dA_size _)⟩
theorem Digs.kept {W W' : World} {A : Option Addr} {D : List Dig} (h : Digs W A D) (hu : Kept W W') : Digs W' A D := Byt.kept h hu
theorem upIn_flat (D : List Dig) : upIn D = 1 :: flatD D := rfl
theorem flatD_snoc (D : List Dig) (k : Nat) (h : k < D.length) : flatD (D.take (k + 1)) = flatD (D.take k) ++ D[k].1 := by
  rw [List.take_succ_eq_append_getElem h, flatD, List.flatMap_append]; simp [flatD]

theorem dig_len : Try.prog.arrayLen 40 = 32 := by kernel_rfl
theorem dig_elem : Try.prog.elem 40 = 5 := by kernel_rfl
theorem slice_dig_all (W : World) (g : Nat) :
    (Instr.sliceAt 40 (.pointer (some ⟨g, 0, none⟩)) none none none).run Try.prog W = .ok (.slice (some ⟨g, 0, none⟩) 32 32) W := by
  have := run_sliceAt_array_all (P := Try.prog) W 40 ⟨g, 0, none⟩ (by rw [dig_len, dig_elem]; exact Try.underlying40)
  rw [this, dig_elem, u8_sizeOf, dig_len]
  simp [Result.andThen, slicedAt, add_none]

set_option maxHeartbeats 2000000 in
set_option maxRecDepth 20000 in
theorem tree_Up {w : World} {b r q : Nat} {L : List Bytes} (h : BookL w b r q L) {A : Option Addr} {D : List Dig} (c : Nat) (hD : Digs w A D) (h1 : 1 ≤ D.length) (h4 : D.length ≤ 4) :
    Calls Try.prog 19 #[.pointer (some ⟨b, 0, none⟩), .slice A D.length c] w fun e W => e = .returned (.tuple #[.agg (dA (upM shaM D)), .int .i64 0]) ∧ BookL W b r q (noteM L (upIn D)) ∧ Upd (Book3 b r q) w W := by
  have hb1 := h.kept ((Upd.refl (fun _ => False) w).alloc (.cells (dA dig0) 40))
  have hD1 := hD.kept ((Upd.refl (fun _ => False) w).alloc (.cells (dA dig0) 40))
  have hr1 : Blk (w.alloc (.cells (dA dig0) 40)) w.heap.size 40 (encB dig0.1) := Blk.new w _ _
  have hk1 : Kept w (w.alloc (.cells (dA dig0) 40)) := (Upd.refl _ w).alloc _
  generalize hW1 : w.alloc (.cells (dA dig0) 40) = w1 at *
  obtain ⟨v0, w2, hbs, hB, hk2⟩ := run_bs1 1 w1
  change (sliceRow 32 1 #[(0, .int .u8 1)]).run Try.prog w1 = _ at hbs
  have HX := Lib.hid (And.intro hb1 (And.intro hD1 (And.intro hr1 (And.intro hk1 (And.intro hB hk2)))))
  have HL := Lib.hid (And.intro h1 h4)
  have hd1 : decide ((D.length : Int) < 1) = false := by rw [decide_eq_false_iff_not]; omega
  have hd4 : decide ((4 : Int) < (D.length : Int)) = false := by rw [decide_eq_false_iff_not]; omega
  clear h hb1 hD hD1 hr1 hk1 hB hk2 h1 h4
  go_enter Try.func19, Try.ntmps19
  go_wp2_with fail
  go_loopw [21, 6] (fun i v wr => ∃ k : Nat, k ≤ D.length ∧ i = .int .i64 k ∧ OwnB wr w1.heap.size v (1 :: flatD (D.take k)) ∧ Kept w1 wr) (fun i _ _ => D.length - (intOf i).toNat)
  case atStart => exact ⟨0, Nat.zero_le _, rfl, HX.out.2.2.2.2.1, HX.out.2.2.2.2.2⟩
  case round =>
    obtain ⟨k, hk, rfl, hown, hu⟩ := hrel
    rcases Nat.lt_or_ge k D.length with hlt | hge
    · obtain ⟨bd, off, rfl, s1, s2⟩ := (HX.out.2.1.kept hu).get hlt
      have hk' : (k : Int) < (D.length : Int) := by omega
      have hk5 : (k : Int) < 4 := by have := HL.out.2; omega
      have HS : Hid (1 :: flatD (D.take (k + 1)) = (1 :: flatD (D.take k)) ++ D[k].1) := by show _ = _; rw [flatD_snoc D k hlt]; rfl
      have HLN : Hid ((1 :: flatD (D.take k) : Bytes).length ≤ 200) := by
        show _ ≤ _
        rw [List.length_cons, flatD_length, List.length_take]
        have := HL.out.2
        omega
      obtain ⟨d, hd⟩ : ∃ d, d = D[k] := ⟨_, rfl⟩
      rw [← hd] at s2 HS
      clear hd
      have hown2 := hown.kept ((Upd.refl (fun _ => False) wr).alloc (.cells (dA d) 40))
      have hu2 : Kept w1 (wr.alloc (.cells (dA d) 40)) := hu.alloc _
      have hblk : Blk (wr.alloc (.cells (dA d) 40)) wr.heap.size 40 (encB d.1) := Blk.new wr _ _
      have hsl : ∀ W, (Instr.sliceAt 40 (.pointer (some ⟨wr.heap.size, 0, none⟩)) none none none).run Try.prog W = .ok (.slice (some ⟨wr.heap.size, 0, none⟩) 32 32) W := fun W => slice_dig_all W _
      have hbyt : Byt (wr.alloc (.cells (dA d) 40)) (some ⟨wr.heap.size, 0, none⟩) d.1 := .inr ⟨_, _, rfl, hblk.range 0 (fun j _ => by rw [Nat.zero_add])⟩
      generalize hWA : wr.alloc (.cells (dA d) 40) = wa at *
      have HR := Lib.hid (And.intro hown2 (And.intro hu2 hbyt))
      clear hown hu hown2 hu2 hblk hbyt
      generalize flatD (D.take k) = F at *
      go_wp2_with (at_builtin; refine wpList_append_bytes (R := d.1) rfl (.tmp 25) (.tmp 26) rfl rfl HR.out.1 (some ⟨wr.heap.size, 0, none⟩) 32 (by rw [d.2]; rfl) HR.out.2.2 (by have := HLN.out; rw [d.2]; omega) HR.out.2.1.size ?_; intro v' w3 hown hu3)
      go_roundw
      case rel =>
        refine ⟨k + 1, by omega, by go_num, by rw [HS.out]; exact hown, HR.out.2.1.then hu3 fun i hi e => ?_⟩
        have := (HR.out.1.far _ e).1
        omega
      case measure => simp [intOf]; omega
    · obtain rfl : k = D.length := by omega
      rw [List.take_length] at hown
      have hlt := HX.out.1.lt
      obtain ⟨A3, c3, rfl, hc3, hb3⟩ := hown.form
      have hlen : (1 :: flatD D : Bytes).length ≤ 65536 := by rw [List.length_cons, flatD_length]; have := HL.out.2; omega
      have HY := Lib.hid (And.intro (HX.out.1.kept hu) (And.intro (HX.out.2.2.1.kept hu) (And.intro (show Kept w wr from HX.out.2.2.2.1.then hu fun _ _ h => h) (And.intro hc3 (And.intro hb3 hlen)))))
      clear hown hu hc3 hb3 hlen hbs hW1 hlt HX
      go_wp2_with fail
      refine (ink_Of_L (R := upIn D) HY.out.1 c3 HY.out.2.2.2.2.1 HY.out.2.2.2.2.2 HY.out.2.2.2.1).mono ?_
      rintro e w4 ⟨rfl, hb4, hu4⟩
      have hr4 := HY.out.2.1.upd hu4 (HY.out.1.not HY.out.2.1 (by decide))
      rw [show shaM (upIn D) = upM shaM D from rfl]
      obtain ⟨hrb, hs1, hs2⟩ := dig_end (upM shaM D) hr4
      have HF : Hid (BookL (w4.setRow w.heap.size (dA (upM shaM D))) b r q (noteM L (upIn D)) ∧ Upd (Book3 b r q) w (w4.setRow w.heap.size (dA (upM shaM D)))) :=
        ⟨hb4.far hr4 (by decide) ((Upd.refl _ _).setRow _ _ fun _ => rfl), (HY.out.2.2.1.to.trans hu4).setRow _ _ (fun h => absurd h (Nat.lt_irrefl _))⟩
      have HG := Lib.hid (And.intro hs1 hs2)
      clear hb4 hu4 hr4 hs1 hs2 HY
      generalize hX : upM shaM D = X at *
      have HDD := Lib.hid hX
      clear hX
      go_wp2
      refine bodyPost_ret (v := .tuple #[.agg (dA X), .int .i64 0]) ?_ rfl ⟨by rw [HDD.out], HF.out⟩
      rw [results_seg2 (P := Try.prog) (fn := Try.f19) (p := 4) (t := 5) (ty := 40) rfl _ _ ⟨w.heap.size, 0, none⟩ 32 _ (.int .i64 0) rfl rfl Try.underlying40 rfl sizeOf40 HG.out.1, HG.out.2]
end Go.Proofs.Ytjimamgghkgdeaa
