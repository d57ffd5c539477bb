/- The document's ledger: Vector; the document's helpers CopyInts, EqInts. -/
import Derived.Test.YtjnaenmknbcjmaaTagS
namespace Go.Proofs.Ytjnaenmknbcjmaa
open Go.RowKit

theorem putE_length (e : Ent) (L : List Ent) : (putE e L).length ≤ L.length + 1 := by unfold putE; split <;> simp
theorem puts_length (f : Int) (d : Dig) : ∀ (R : List Int) (L : List Ent), (R.foldl (fun L t => putE (f, t, d) L) L).length ≤ L.length + R.length
  | [], L => by simp
  | t :: R, L => by
    have h1 := puts_length f d R (putE (f, t, d) L)
    have h2 := putE_length (f, t, d) L
    simp only [List.foldl_cons, List.length_cons]
    omega

set_option maxHeartbeats 2000000 in
theorem ref_Vector {w : World} {B b : Nat} {v : Value} {L : List Ent} {n : Int} (h : RefAt w B b v L n) (hL : L.length < 900000) (hB : B ≤ w.heap.size) (f : Int) (d : Dig) (hf : (Lit.int .i64 f).wf = true) (A : Option Addr) (R : List Int) (c : Nat) (hR : Ints w A R) (hA : 0 < R.length → ∀ a, A = some a → a.block < B ∧ a.block ≠ b) (hlen : R.length * 8 ≤ 140737488351232) (hx : ∀ x ∈ R, (Lit.int .i64 x).wf = true) :
    Calls Try.prog 23 #[.pointer (some ⟨b, 0, none⟩), .int .i64 f, .slice A R.length c, .agg (dA d)] w fun e w' => e = .returned (.int .i64 (vecM L f R d).2) ∧ ∃ v', RefTo w w' B b v v' (vecM L f R d).1 n := by
  have hT := (RefTo.refl h).alloc (.cells (dA d) 28)
  have hb := Box.new w d
  have hR1 : Ints (w.alloc (.cells (dA d) 28)) A R := hR.upd ((Upd.refl (fun _ => False) w).alloc _) (fun _ h => h.elim)
  have hB1 : B ≤ (w.alloc (.cells (dA d) 28)).heap.size := by rw [World.size_alloc]; omega
  have hgd : v.ownBlock ≠ some w.heap.size := h.rows.far (.inr (Nat.le_refl _))
  have hbd : w.heap.size ≠ b := by have := h.size; omega
  go_enter Try.func23, Try.ntmps23
  go_wp2_with fail
  generalize w.alloc (.cells (dA d) 28) = W1 at *
  have HT := Lib.hid hT
  have HX := Lib.hid hx
  clear hT h hx hR
  refine (ref_Name f _).mono ?_
  rintro e w2 ⟨rfl, rfl⟩
  cases hfb : namedB f
  · have HM : Hid (vecM L f R d = (L, 2)) := by show _ = _; unfold vecM; rw [hfb]; rfl
    clear hfb
    go_wp2
    go_ret
    rw [HM.out]
    exact ⟨rfl, v, HT.out⟩
  · by_cases hl : R.length ≤ 34
    · have hl' : decide (R.length ≤ 34) = true := by simpa using hl
      have hl2 : ¬ (34 : Int) < R.length := by omega
      go_wp2_with fail
      go_loopw [9] (fun i wr => ∃ k : Nat, k ≤ R.length ∧ i = .int .i64 k ∧ (∀ x ∈ R.take k, namedB x = true) ∧ wr = W1) (fun i _ => R.length - (intOf i).toNat)
      case atStart => exact ⟨0, Nat.zero_le _, rfl, by simp, rfl⟩
      case round =>
        obtain ⟨k, hk, rfl, hnm, hw⟩ := hrel
        replace hw := hw.symm
        subst hw
        by_cases hlt : k < R.length
        · obtain ⟨gb, off, rfl, hcR⟩ := hR1.get hlt
          have hst : ∀ x ∈ R.take (k + 1), x ∈ R.take k ∨ x = R[k] := fun x hx => by
            rw [List.take_succ_eq_append_getElem hlt, List.mem_append, List.mem_singleton] at hx; exact hx
          have HST := Lib.hid hst
          have hin := List.getElem_mem hlt
          have HNM := Lib.hid hnm
          clear hst hnm
          generalize R[k] = x at *
          go_wp2_with fail
          refine (ref_Name x _).mono ?_
          rintro e w2 ⟨rfl, rfl⟩
          cases hxb : namedB x
          · have HM : Hid (vecM L f R d = (L, 2)) := by
              show _ = _
              unfold vecM
              rw [if_neg]
              intro h
              simp only [Bool.and_eq_true, List.all_eq_true] at h
              rw [h.2 x hin] at hxb
              cases hxb
            clear hxb
            go_wp2
            go_ret
            rw [HM.out]
            exact ⟨rfl, v, HT.out⟩
          · have HXB := Lib.hid hxb
            clear hxb
            go_wp2
            go_roundw
            case rel => exact ⟨k + 1, by omega, by go_num, fun y hy => (HST.out y hy).elim (HNM.out y) (fun e => by rw [e]; exact HXB.out), by first | rfl | trivial⟩
            case measure => simp [intOf]; omega
        · obtain rfl : k = R.length := by omega
          rw [List.take_length] at hnm
          have HM : Hid (vecM L f R d = (R.foldl (fun L t => putE (f, t, d) L) L, 0)) := by
            show _ = _
            unfold vecM
            rw [if_pos]
            simp only [hfb, hl', Bool.true_and, List.all_eq_true]
            exact hnm
          clear hnm hfb hl'
          go_wp2_with fail
          go_loopw [10] (fun i wr => ∃ k : Nat, ∃ v', k ≤ R.length ∧ i = .int .i64 k ∧ RefTo W1 wr B b v v' ((R.take k).foldl (fun L t => putE (f, t, d) L) L) n) (fun i _ => R.length - (intOf i).toNat)
          case atStart => exact ⟨0, v, Nat.zero_le _, rfl, RefTo.refl HT.out.ref⟩
          case round =>
            obtain ⟨k, v1, hk, rfl, hT1⟩ := hrel
            by_cases hlt : k < R.length
            · obtain ⟨gb, off, rfl, hcR⟩ := hR1.get hlt
              obtain ⟨ha1, ha2⟩ := hA (by omega) _ rfl
              have hst : (R.take (k + 1)).foldl (fun L t => putE (f, t, d) L) L = putE (f, R[k], d) ((R.take k).foldl (fun L t => putE (f, t, d) L) L) := by rw [List.take_succ_eq_append_getElem hlt, List.foldl_append]; rfl
              have HST := Lib.hid hst
              have hxw := HX.out _ (List.getElem_mem hlt)
              have hll := puts_length f d (R.take k) L
              rw [List.length_take] at hll
              have hll2 : ((R.take k).foldl (fun L t => putE (f, t, d) L) L).length < 1000000 := by omega
              clear hst hll
              generalize (R.take k).foldl (fun L t => putE (f, t, d) L) L = L1 at *
              generalize R[k] = x at *
              have c1 := hT1.upd.cell hcR (fun h => h.elim ha2 (HT.out.ref.rows.far (.inl ha1)))
              have bb := hT1.upd.heap hb (fun h => h.elim hbd hgd)
              have hv1b : v1.ownBlock ≠ some gb := hT1.ref.rows.far (.inl ha1)
              have hv1d : v1.ownBlock ≠ some w.heap.size := fun h => hgd (hT1.new _ hb.lt h)
              have f1 : ∀ W, Upd (fun k => k = b ∨ v1.ownBlock = some k) wr W → W.cell? ⟨gb, off + k, none⟩ = some (.int .i64 x) := fun W hW => hW.cell c1 (fun h => h.elim ha2 hv1b)
              have f2 : ∀ W, Upd (fun k => k = b ∨ v1.ownBlock = some k) wr W → segB W ⟨w.heap.size, 0, none⟩ 32 = true := fun W hW => Box.s1 (d := d) (hW.heap bb (fun h => h.elim hbd hv1d))
              have f3 : ∀ W, Upd (fun k => k = b ∨ v1.ownBlock = some k) wr W → segV W ⟨w.heap.size, 0, none⟩ 32 = dA d := fun W hW => Box.s2 (d := d) (hW.heap bb (fun h => h.elim hbd hv1d))
              have hok : entOk (f, x, d) := ⟨hf, hxw⟩
              have HT1 := Lib.hid hT1
              have hBr : B ≤ wr.drew.heap.size := Nat.le_trans hB1 hT1.upd.size
              have HBR := Lib.hid hBr
              clear hT1 c1 bb hcR hBr hR1 hb hB1
              go_wp2_with fail
              refine wp_region_ord [(0, true), (1, true), (2, true), (3, true), (4, true), (5, true), (6, true), (7, true), (8, false)] (by kernel_rfl) (by kernel_rfl) (Upd (fun k => k = b ∨ v1.ownBlock = some k) wr) ((Upd.refl _ _).drew) ?_
              simp only [ordOps, List.getD_cons_zero, List.getD_cons_succ]
              iterate 8 (refine wpOrd_held (fun K hK => ?_); go_simp; first | (apply Exists.intro; refine ⟨fun W hW => ?_, hK _ ?_⟩; (go_simp; first | done | exact rfl); clear hK K) | (refine hK _ ?_; clear hK K))
              refine wpOrd_step (fun K hK => ?_) ((Upd.refl _ _).drew)
              go_simp
              refine (ref_put' HT1.out.ref.drew hll2 HBR.out _ hok).mono ?_
              rintro r W2 ⟨u, v2, rfl, hT2⟩
              have hT3 : RefTo wr W2 B b v1 v2 (putE (f, x, d) L1) n := ((RefTo.refl HT1.out.ref).drew).trans hT2
              refine hK _ _ hT3.upd ?_
              clear hK K f1 f2 f3
              replace HT1 := Lib.hid (HT1.out.trans hT3)
              clear hT2 hT3
              refine wpOrd_nil ?_
              go_wp2
              go_roundw
              case rel => exact ⟨k + 1, v2, by omega, by go_num, by rw [HST.out]; exact HT1.out⟩
              case measure => simp [intOf]; omega
            · obtain rfl : k = R.length := by omega
              rw [List.take_length] at hT1
              have HT1 := Lib.hid (HT.out.trans hT1)
              clear hT1
              go_wp2
              go_ret
              rw [HM.out]
              exact ⟨rfl, v1, HT1.out⟩
    · have HM : Hid (vecM L f R d = (L, 2)) := by show _ = _; unfold vecM; rw [if_neg (by simp [hl])]
      have hl2 : (34 : Int) < R.length := by omega
      clear hfb hl
      go_wp2
      go_ret
      rw [HM.out]
      exact ⟨rfl, v, HT.out⟩
end Go.Proofs.Ytjnaenmknbcjmaa
