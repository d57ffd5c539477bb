/- Package tag: contract of Vector. -/
import Derived.Test.YtjnaenmknbcjmaaTagB
namespace Go.Proofs.Ytjnaenmknbcjmaa
open Go.RowKit
open Go.Maps (Keyed)

/-- a slice of ints whose elements are R lies from A on -/
def Ints (w : World) (A : Option Addr) (R : List Int) : Prop :=
  R = [] ∨ ∃ b off, A = some ⟨b, off, none⟩ ∧ ∀ k (h : k < R.length), w.cell? ⟨b, off + k, none⟩ = some (.int .i64 R[k])

theorem Ints.get {w : World} {A : Option Addr} {R : List Int} (h : Ints w A R) {k : Nat} (hk : k < R.length) : ∃ b off, A = some ⟨b, off, none⟩ ∧ w.cell? ⟨b, off + k, none⟩ = some (.int .i64 R[k]) := by
  rcases h with rfl | ⟨b, off, rfl, h⟩
  · simp at hk
  · exact ⟨b, off, rfl, h k hk⟩
theorem Ints.upd {S : Nat → Prop} {w w' : World} {A : Option Addr} {R : List Int} (h : Ints w A R) (hu : Upd S w w') (hS : ∀ k, S k → ∀ c t f, w.heap[k]? ≠ some (.cells c t f)) : Ints w' A R := by
  rcases h with rfl | ⟨b, off, rfl, h⟩
  · exact .inl rfl
  · refine .inr ⟨b, off, rfl, fun k hk => hu.cell (h k hk) fun hs => ?_⟩
    have hc := h k hk
    unfold World.cell? at hc
    split at hc
    · rename_i c t f he; exact hS b hs c t f he
    · cases hc

/-- Vector, a reader that is none -/
theorem tag_Vector_bad {w : World} {b r : Nat} {L : List Ent} {n : Int} (h : LedAt w b r L n) (f : Int) (d : Dig) (A : Option Addr) (R : List Int) (c : Nat) (hR : Ints w A R) (hf : namedB f = true) (hl : R.length ≤ 34) (hx : ∃ x ∈ R, namedB x = false) :
    Calls Try.prog 22 #[.pointer (some ⟨b, 0, none⟩), .int .i64 f, .slice A R.length c, .agg (dA d)] w fun e w' => e = .returned (.int .i64 2) ∧ Kept w w' := by
  have h1 : LedAt (w.alloc (.cells (dA d) 28)) b r L n := h.alloc _
  have hR1 : Ints (w.alloc (.cells (dA d) 28)) A R := hR.upd ((Upd.refl (fun _ => False) w).alloc _) (fun _ h => h.elim)
  have hl' : ((R.length : Int)) ≤ 34 := by omega
  go_enter Try.func22, Try.ntmps22
  go_wp2_with (first
    | (go_at_call 60; refine (tag_none_any (L := L) (n := n) (r := r) h1).mono ?_; rintro e w' ⟨rfl, rfl⟩)
    | (go_at_call 61; refine (tag_named_any _ _).mono ?_; rintro e w' ⟨rfl, rfl⟩))
  go_loop [27] (fun i => ∃ k : Nat, k ≤ R.length ∧ i = .int .i64 k ∧ ∀ j (hj : j < R.length), j < k → namedB R[j] = true) (fun i => R.length - (intOf i).toNat)
  case atStart => exact ⟨0, Nat.zero_le _, rfl, fun _ _ h => absurd h (Nat.not_lt_zero _)⟩
  case round =>
    obtain ⟨k, hk, rfl, hj⟩ := hrel
    have HJ := Lib.hid hj
    clear hj
    by_cases hlt : k < R.length
    · obtain ⟨gb, off, rfl, hc⟩ := hR1.get hlt
      cases hb : namedB R[k]
      · go_wp2_with (first
          | (go_at_call 61; refine (tag_named_any _ _).mono ?_; rintro e w' ⟨rfl, rfl⟩))
        go_ret
        exact ⟨rfl, (Upd.refl _ w).alloc _⟩
      · go_wp2_with (first
          | (go_at_call 61; refine (tag_named_any _ _).mono ?_; rintro e w' ⟨rfl, rfl⟩))
        go_round
        case rel =>
          refine ⟨k + 1, by omega, by go_num, fun j hj h => ?_⟩
          rcases Nat.lt_or_ge j k with h' | h'
          · exact HJ.out j hj h'
          · obtain rfl : j = k := by omega
            exact hb
        case measure => simp [intOf]; omega
    · exfalso
      obtain ⟨x, hx, hxb⟩ := hx
      obtain ⟨j, hj, rfl⟩ := List.mem_iff_getElem.1 hx
      rw [HJ.out j hj (by omega)] at hxb
      cases hxb

/-- Vector, taken -/
theorem tag_Vector_ok {w : World} {b r : Nat} {L : List Ent} {n : Int} (h : LedAt w b r L n) (f : Int) (d : Dig) (A : Option Addr) (R : List Int) (c : Nat) (hR : Ints w A R) (hf : namedB f = true) (hl : R.length ≤ 34) (hx : ∀ x ∈ R, namedB x = true) :
    Calls Try.prog 22 #[.pointer (some ⟨b, 0, none⟩), .int .i64 f, .slice A R.length c, .agg (dA d)] w fun e w' => e = .returned (.int .i64 0) ∧ LedAt w' b r (R.foldl (fun L t => putE (f, t, d) L) L) n ∧ Upd (fun k => k = r) w w' := by
  have h1 : LedAt (w.alloc (.cells (dA d) 28)) b r L n := h.alloc _
  have hR1 : Ints (w.alloc (.cells (dA d) 28)) A R := hR.upd ((Upd.refl (fun _ => False) w).alloc _) (fun _ h => h.elim)
  have hl' : ((R.length : Int)) ≤ 34 := by omega
  go_enter Try.func22, Try.ntmps22
  go_wp2_with (first
    | (go_at_call 60; refine (tag_none_any (L := L) (n := n) (r := r) h1).mono ?_; rintro e w' ⟨rfl, rfl⟩)
    | (go_at_call 61; refine (tag_named_any _ _).mono ?_; rintro e w' ⟨rfl, rfl⟩))
  go_loop [27] (fun i => ∃ k : Nat, k ≤ R.length ∧ i = .int .i64 k) (fun i => R.length - (intOf i).toNat)
  case atStart => exact ⟨0, Nat.zero_le _, rfl⟩
  case round =>
    obtain ⟨k, hk, rfl⟩ := hrel
    by_cases hlt : k < R.length
    · obtain ⟨gb, off, rfl, hc⟩ := hR1.get hlt
      have hb := hx R[k] (List.getElem_mem hlt)
      go_wp2_with (first
          | (go_at_call 61; refine (tag_named_any _ _).mono ?_; rintro e w' ⟨rfl, rfl⟩))
      go_round
      case rel => exact ⟨k + 1, by omega, by go_num⟩
      case measure => simp [intOf]; omega
    · go_wp2
      have hne : ∀ W, LedAt W b r L n → b ≠ r := fun W hW => by rintro rfl; obtain ⟨es, c, hm, _⟩ := hW.map; rw [hW.blk] at hm; cases hm
      have hbr : b ≠ r := hne w h
      have hgr : w.heap.size ≠ r := by have := h.map.lt; omega
      have hS : ∀ k, k = r → ∀ c t fr, (w.alloc (.cells (dA d) 28)).heap[k]? ≠ some (.cells c t fr) := by
        rintro k rfl c t fr he
        obtain ⟨es, c, hm, _⟩ := h1.map
        rw [hm] at he; cases he
      have s1 : segB (w.alloc (.cells (dA d) 28)) ⟨w.heap.size, 0, none⟩ 32 = true := segB_new _ _ _ _ _ rfl (dA_size d)
      have s2 : segV (w.alloc (.cells (dA d) 28)) ⟨w.heap.size, 0, none⟩ 32 = dA d := segV_new _ _ _ _ _ rfl (dA_size d)
      have hg : w.heap.size < (w.alloc (.cells (dA d) 28)).heap.size := by simp
      have HU : Hid (Kept w (w.alloc (.cells (dA d) 28))) := (Upd.refl _ w).alloc _
      have HS := Lib.hid hS
      have HX := Lib.hid hx
      have HF : Hid (L = (R.take 0).foldl (fun L t => putE (f, t, d) L) L) := rfl
      have HNE := Lib.hid (And.intro hbr hgr)
      clear hS hx hne hbr hgr hlt hk
      generalize w.heap.size = g at *
      generalize w.alloc (.cells (dA d) 28) = W0 at *
      go_loopw [37] (fun i wr => ∃ k : Nat, k ≤ R.length ∧ i = .int .i64 k ∧ LedAt wr b r ((R.take k).foldl (fun L t => putE (f, t, d) L) L) n ∧ Upd (fun k => k = r) W0 wr) (fun i _ => R.length - (intOf i).toNat)
      case atStart => exact ⟨0, Nat.zero_le _, rfl, h1, Upd.refl _ _⟩
      case round =>
        obtain ⟨k, hk, rfl, hL, hu⟩ := hrel
        by_cases hlt : k < R.length
        · obtain ⟨gb, off, rfl, hcR⟩ := (hR1.upd hu HS.out).get hlt
          have hc := hL.cell0
          have t1 : segB wr ⟨g, 0, none⟩ 32 = true := (segB_same 32 (hu.block g hg HNE.out.2)).trans s1
          have t2 : segV wr ⟨g, 0, none⟩ 32 = dA d := (segV_same 32 (hu.block g hg HNE.out.2)).trans s2
          obtain ⟨W2, hrun, hm2, hg2, hs2⟩ := run_update_at ent_enc Try.underlying50 hL.drew.map (x := (f, R[k], d)) ⟨named_wf hf, named_wf (HX.out _ (List.getElem_mem hlt))⟩ (.agg #[])
          rw [putL_unit] at hm2
          have H1 := Lib.hid hm2
          have H2 := Lib.hid hg2
          have H3 := Lib.hid hL
          have H4 := Lib.hid hu
          clear hm2 hg2 hs2 hL hu s1 s2 h1 hR1 h
          go_wp2_with fail
          go_region
          go_wp2
          go_roundw
          case rel =>
            refine ⟨k + 1, by omega, by go_num, ⟨(H2.out.block b H3.out.drew.lt (by simpa using HNE.out.1)).trans H3.out.blk, ?_⟩, H4.out.drew.then (Upd.of_grown H2.out) (fun i _ e => by simpa using e)⟩
            rw [List.take_succ_eq_append_getElem hlt, List.foldl_append]
            exact H1.out
          case measure => simp [intOf]; omega
        · obtain rfl : k = R.length := by omega
          have H3 := Lib.hid hL
          have H4 := Lib.hid hu
          clear hL hu
          go_wp2
          go_ret
          exact ⟨rfl, by have := H3.out; rwa [List.take_length] at this, HU.out.to.then H4.out fun _ _ h => h⟩
/-- Vector, refused at once -/
theorem tag_Vector_no {w : World} {b r : Nat} {L : List Ent} {n : Int} (h : LedAt w b r L n) (f : Int) (d : Dig) (A : Option Addr) (R : List Int) (c : Nat) (hx : namedB f = false ∨ 34 < R.length) :
    Calls Try.prog 22 #[.pointer (some ⟨b, 0, none⟩), .int .i64 f, .slice A R.length c, .agg (dA d)] w fun e w' => e = .returned (.int .i64 2) ∧ Kept w w' := by
  have h1 : LedAt (w.alloc (.cells (dA d) 28)) b r L n := h.alloc _
  cases hf : namedB f
  · clear hx
    go_enter Try.func22, Try.ntmps22
    go_wp2_with (first
      | (go_at_call 60; refine (tag_none_any (L := L) (n := n) (r := r) h1).mono ?_; rintro e w' ⟨rfl, rfl⟩)
      | (go_at_call 61; refine (tag_named_any _ _).mono ?_; rintro e w' ⟨rfl, rfl⟩))
    go_ret
    exact ⟨rfl, (Upd.refl _ w).alloc _⟩
  · have hl : (34 : Int) < R.length := by rcases hx with hx | hx; rw [hf] at hx; cases hx; omega
    clear hx
    go_enter Try.func22, Try.ntmps22
    go_wp2_with (first
      | (go_at_call 60; refine (tag_none_any (L := L) (n := n) (r := r) h1).mono ?_; rintro e w' ⟨rfl, rfl⟩)
      | (go_at_call 61; refine (tag_named_any _ _).mono ?_; rintro e w' ⟨rfl, rfl⟩))
    go_ret
    exact ⟨rfl, (Upd.refl _ w).alloc _⟩

def vecM (L : List Ent) (f : Int) (R : List Int) (d : Dig) : List Ent × Int :=
  if namedB f && decide (R.length ≤ 34) && R.all namedB then (R.foldl (fun L t => putE (f, t, d) L) L, 0) else (L, 2)

theorem tag_Vector {w : World} {b r : Nat} {L : List Ent} {n : Int} (h : LedAt w b r L n) (f : Int) (d : Dig) (A : Option Addr) (R : List Int) (c : Nat) (hR : Ints w A R) :
    Calls Try.prog 22 #[.pointer (some ⟨b, 0, none⟩), .int .i64 f, .slice A R.length c, .agg (dA d)] w fun e w' => e = .returned (.int .i64 (vecM L f R d).2) ∧ LedAt w' b r (vecM L f R d).1 n ∧ Upd (fun k => k = r) w w' := by
  unfold vecM
  split
  · rename_i hx
    simp only [Bool.and_eq_true, decide_eq_true_eq] at hx
    exact tag_Vector_ok h f d A R c hR hx.1.1 hx.1.2 (fun x hm => List.all_eq_true.1 hx.2 x hm)
  · rename_i hx
    simp only [Bool.and_eq_true, decide_eq_true_eq] at hx
    by_cases h1 : namedB f = true
    · by_cases h2 : R.length ≤ 34
      · have h3 : ¬ R.all namedB = true := fun h => hx ⟨⟨h1, h2⟩, h⟩
        have h3' : R.all namedB = false := by simpa using h3
        obtain ⟨x, hm, hn⟩ := List.all_eq_false.1 h3'
        refine (tag_Vector_bad h f d A R c hR h1 h2 ⟨x, hm, by simpa using hn⟩).mono fun e w' ⟨he, hk⟩ => ⟨he, h.upd hk id id, hk.to⟩
      · exact (tag_Vector_no h f d A R c (.inr (by omega))).mono fun e w' ⟨he, hk⟩ => ⟨he, h.upd hk id id, hk.to⟩
    · exact (tag_Vector_no h f d A R c (.inl (by simpa using h1))).mono fun e w' ⟨he, hk⟩ => ⟨he, h.upd hk id id, hk.to⟩
end Go.Proofs.Ytjnaenmknbcjmaa
