/- Package tag: contracts of Check, Len, Asked, Vector. -/
import Derived.Test.YtjnaenmknbcjmaaTagA
namespace Go.Proofs.Ytjnaenmknbcjmaa
open Go.RowKit
open Go.Maps (Keyed)

attribute [local go_sem] tag_map_eq

/-! ### sync/atomic -/
theorem run_atomicLoad {a : Addr} {x : Int} {w : World} (hc : w.cell? a = some (.int .i64 x)) :
    (callFunc 77 #[.pointer (some a)]).run Try.prog w = .ok (.value (.int .i64 x)) w :=
  run_call_load (P := Try.prog) Try.func77 (by kernel_rfl) (by kernel_rfl) (by kernel_rfl) .i64 (by kernel_rfl) hc
theorem run_add64' {a : Addr} {x : Int} {w : World} (h0 : 0 ≤ x) (h1 : x < 4611686018427387904) (hc : w.cell? a = some (.int .i64 x)) (hz : w.frozen? a = false) :
    (callFunc 76 #[.pointer (some a), .int .i64 1]).run Try.prog w = .ok (.value (.int .i64 (x + 1))) (w.setCell a (.int .i64 (x + 1))) :=
  run_call_add (P := Try.prog) Try.func76 (by kernel_rfl) (by kernel_rfl) (by kernel_rfl) .i64 (by kernel_rfl) hc hz (by
    have hw : IntKind.i64.wrap (x + 1) = x + 1 := by rw [IntKind.wrap_i64]; omega
    simp [Op.intArith, go_sem, hw])

theorem atomic_Add {b o : Nat} {x : Int} {w : World} (h0 : 0 ≤ x) (h1 : x < 4611686018427387904) (hc : w.cell? ⟨b, o, none⟩ = some (.int .i64 x)) (hz : w.frozen? ⟨b, o, none⟩ = false) :
    Calls Try.prog 64 #[.pointer (some ⟨b, o, none⟩), .int .i64 1] w fun e w' => e = .returned (.int .i64 (x + 1)) ∧ w.setCell ⟨b, o, none⟩ (.int .i64 (x + 1)) = w' := by
  have h := run_add64' h0 h1 hc hz
  go_enter Try.func64, Try.ntmps64
  go_wp2
  go_ret
  exact ⟨rfl, rfl⟩

theorem atomic_Load {b o : Nat} {x : Int} {w : World} (hc : w.cell? ⟨b, o, none⟩ = some (.int .i64 x)) :
    Calls Try.prog 66 #[.pointer (some ⟨b, o, none⟩)] w fun e w' => e = .returned (.int .i64 x) ∧ w = w' := by
  have h := run_atomicLoad hc
  go_enter Try.func66, Try.ntmps66
  go_wp2
  go_ret
  exact ⟨rfl, rfl⟩

/-! ### Len, Asked -/
theorem tag_Len {w : World} {b r : Nat} {L : List Ent} {n : Int} (h : LedAt w b r L n) :
    Calls Try.prog 27 #[.pointer (some ⟨b, 0, none⟩)] w fun e w' => e = .returned (.int .i64 L.length) ∧ w = w' := by
  have hl := run_len_at Try.underlying50 h.map 3
  rw [unitL, List.length_map] at hl
  have hc := h.cell0
  go_enter Try.func27, Try.ntmps27
  go_wp2_with (first
    | (go_at_call 60; refine (tag_none_any (L := L) (n := n) (r := r) h).mono ?_; rintro e w' ⟨rfl, rfl⟩))
  go_ret
  exact ⟨rfl, rfl⟩

theorem tag_Asked {w : World} {b r : Nat} {L : List Ent} {n : Int} (h : LedAt w b r L n) :
    Calls Try.prog 29 #[.pointer (some ⟨b, 0, none⟩)] w fun e w' => e = .returned (.int .i64 n) ∧ w = w' := by
  have hc := h.cell1
  go_enter Try.func29, Try.ntmps29
  go_wp2_with (first
    | (go_at_call 60; refine (tag_none_any (L := L) (n := n) (r := r) h).mono ?_; rintro e w' ⟨rfl, rfl⟩)
    | (go_at_call 66; refine (atomic_Load hc).mono ?_; rintro e w' ⟨rfl, rfl⟩))
  go_ret
  exact ⟨rfl, rfl⟩
/-! ### Check -/
theorem LedAt.ask {w : World} {b r : Nat} {L : List Ent} {n : Int} (h : LedAt w b r L n) (m : Int) : LedAt (w.setCell ⟨b, 1, none⟩ (.int .i64 m)) b r L m := by
  refine ⟨?_, h.map.kept (heap_setCell_other w _ r _ ?_)⟩
  · rw [heap_setCell_same w b 1 _ _ _ h.blk]; rfl
  · rintro e
    obtain ⟨es, c, hm, _⟩ := h.map
    have e' : r = b := e
    rw [e', h.blk] at hm; cases hm

def checkM (L : List Ent) (f t : Int) (d : Dig) : Bool := decide ((f, t, d) ∈ L) || decide ((f, 0, d) ∈ L)

theorem run_look {W : World} {b r : Nat} {L : List Ent} {n : Int} (h : LedAt W b r L n) (e : Ent) (he : entOk e) (W' : World) (hw : W'.heap[r]? = W.heap[r]?) :
    (Instr.lookup 50 (.map (some r)) (encE e) true).run Try.prog W' = .ok (.tuple #[.agg #[], .bool (decide (e ∈ L))]) W' := by
  have hz : ∀ W : World, (zeroValue 51).run Try.prog W = .ok (.agg #[]) W := fun _ => by kernel_rfl
  rw [run_lookup_at ent_enc Try.underlying50 hz (h.map.kept hw) he true, getL_unit]
  by_cases hm : e ∈ L <;> simp [hm]

attribute [local go_sem] heap_drew heap_alloc_old

set_option maxHeartbeats 800000 in
theorem tag_Check {w : World} {b r : Nat} {L : List Ent} {n : Int} (h : LedAt w b r L n) (h0 : 0 ≤ n) (h1 : n < 4611686018427387904) (f t : Int) (d : Dig) (hf : (Lit.int .i64 f).wf = true) (ht : (Lit.int .i64 t).wf = true) :
    Calls Try.prog 25 #[.pointer (some ⟨b, 0, none⟩), .int .i64 f, .int .i64 t, .agg (dA d)] w fun e w' => e = .returned (.bool (checkM L f t d)) ∧ LedAt w' b r L (n + 1) ∧ Upd (fun k => k = b) w w' := by
  have g1 : LedAt (w.alloc (.cells (dA d) 28)) b r L n := h.alloc _
  have hz := g1.thaw 1
  have hc1 := g1.cell1
  go_enter Try.func25, Try.ntmps25
  go_wp2_with (first
    | (go_at_call 60; refine (tag_none_any (L := L) (n := n) (r := r) g1).mono ?_; rintro e w' ⟨rfl, rfl⟩)
    | (go_at_call 64; refine (atomic_Add h0 h1 hc1 hz).mono ?_; rintro e w' ⟨rfl, rfl⟩))
  clear hc1 hz
  have g2 := g1.ask (n + 1)
  have hu : Upd (fun k => k = b) w ((w.alloc (.cells (dA d) 28)).setCell ⟨b, 1, none⟩ (.int .i64 (n + 1))) := ((Upd.refl _ w).alloc _).setCell _ fun _ => rfl
  have s1 : segB ((w.alloc (.cells (dA d) 28)).setCell ⟨b, 1, none⟩ (.int .i64 (n + 1))) ⟨w.heap.size, 0, none⟩ 32 = true := by
    rw [segB_far _ _ _ _ _ _ (by have := h.lt; simp; omega), segB_new _ _ _ _ _ rfl (dA_size d)]
  have s2 : segV ((w.alloc (.cells (dA d) 28)).setCell ⟨b, 1, none⟩ (.int .i64 (n + 1))) ⟨w.heap.size, 0, none⟩ 32 = dA d := by
    rw [segV_far _ _ _ _ _ _ (by have := h.lt; simp; omega), segV_new _ _ _ _ _ rfl (dA_size d)]
  have hg : w.heap.size < ((w.alloc (.cells (dA d) 28)).setCell ⟨b, 1, none⟩ (.int .i64 (n + 1))).heap.size := by simp
  generalize (w.alloc (.cells (dA d) 28)).setCell ⟨b, 1, none⟩ (.int .i64 (n + 1)) = W at *
  generalize w.heap.size = g at *
  have hc := g2.cell0
  have hb := g2.lt
  have hr := g2.map.lt
  have k1 := run_look g2 (f, t, d) ⟨hf, ht⟩
  have k2 := run_look g2 (f, 0, d) ⟨hf, (by decide : (Lit.int .i64 0).wf = true)⟩
  have H1 := Lib.hid hu
  clear hu g1
  have H2 : Hid (checkM L f t d = (decide ((f, t, d) ∈ L) || decide ((f, 0, d) ∈ L))) := rfl
  have H3 := Lib.hid g2
  clear g2 k2
  generalize decide ((f, t, d) ∈ L) = B1 at *
  go_region
  go_wp2
  have g3 := (H3.out.alloc (.cells #[] 51)).drew
  have s3 : segB (W.alloc (.cells #[] 51)).drew ⟨g, 0, none⟩ 32 = true := by rw [segB_drew, segB_past _ _ _ _ _ hg, s1]
  have s4 : segV (W.alloc (.cells #[] 51)).drew ⟨g, 0, none⟩ 32 = dA d := by rw [segV_drew, segV_past _ _ _ _ _ hg, s2]
  have hg3 : g < (W.alloc (.cells #[] 51)).drew.heap.size := by simp; omega
  have hu3 := (H1.out.alloc (.cells #[] 51)).drew
  clear k1 s1 s2 hg H1 H3 hc hb hr
  generalize (W.alloc (.cells #[] 51)).drew = W1 at *
  have hc := g3.cell0
  have hb := g3.lt
  have hr := g3.map.lt
  have k1 := run_look g3 (f, 0, d) ⟨hf, (by decide : (Lit.int .i64 0).wf = true)⟩
  have H1 := Lib.hid hu3
  have H3 := Lib.hid g3
  clear g3 hu3
  generalize decide ((f, 0, d) ∈ L) = B2 at *
  go_region
  cases B1
  all_goals
    go_wp2
    go_ret
    exact ⟨by rw [H2.out]; rfl, (H3.out.alloc _).drew, (H1.out.alloc _).drew⟩
end Go.Proofs.Ytjnaenmknbcjmaa
