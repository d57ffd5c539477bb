/- sha: arrays as variables; start, roots. -/
import Derived.Test.YtjimamgghkgdeaaShaC
namespace Go.Proofs.Ytjimamgghkgdeaa
open Go.RowKit

/-- words as cells -/
def w32A (L : List Int) : Array Value := (L.map (Value.int .u32)).toArray
/-- bytes as cells -/
def b8A (R : Bytes) : Array Value := (encB R).toArray
@[simp, go_sem] theorem w32A_size (L : List Int) : (w32A L).size = L.length := by simp [w32A]
@[simp, go_sem] theorem b8A_size (R : Bytes) : (b8A R).size = R.length := by simp [b8A, encB_length]
@[simp, go_sem] theorem w32A_one (L : List Int) : oneB (w32A L) = true := by
  simp only [oneB, w32A, List.all_map, List.all_eq_true]
  intro b _
  rfl
@[simp, go_sem] theorem b8A_one (R : Bytes) : oneB (b8A R) = true := by
  simp only [oneB, b8A, encB, List.all_map, List.all_eq_true]
  intro b _
  rfl
def zw8 : List Int := List.replicate 8 0
def zw64 : List Int := List.replicate 64 0
def zb64 : Bytes := List.replicate 64 0
@[simp, go_sem] theorem zw8_length : zw8.length = 8 := by simp [zw8]
@[simp, go_sem] theorem zw64_length : zw64.length = 64 := by simp [zw64]
@[simp, go_sem] theorem zb64_length : zb64.length = 64 := by simp [zb64]
@[go_sem ↓] theorem exec_alloc_w8 (ρ : Operand → Value) (dst : Option Tmp) (ty : TypeId) (pos : String) (after : Array Edge) (guard : Option (Nat × Bool)) :
    execOp ρ ⟨dst, .alloc 117, ty, pos, after, guard⟩ = allocRow 117 := rfl
@[go_sem] theorem run_alloc_w8 (W : World) : (allocRow 117).run Try.prog W = .ok (.value (.pointer (some ⟨W.heap.size, 0, none⟩))) (W.alloc (.cells (w32A zw8) 117)) :=
  run_allocRow _ (.agg (w32A zw8)) (by kernel_rfl) W
@[go_sem ↓] theorem exec_alloc_w64 (ρ : Operand → Value) (dst : Option Tmp) (ty : TypeId) (pos : String) (after : Array Edge) (guard : Option (Nat × Bool)) :
    execOp ρ ⟨dst, .alloc 116, ty, pos, after, guard⟩ = allocRow 116 := rfl
@[go_sem] theorem run_alloc_w64 (W : World) : (allocRow 116).run Try.prog W = .ok (.value (.pointer (some ⟨W.heap.size, 0, none⟩))) (W.alloc (.cells (w32A zw64) 116)) :=
  run_allocRow _ (.agg (w32A zw64)) (by kernel_rfl) W
@[go_sem ↓] theorem exec_alloc_b64 (ρ : Operand → Value) (dst : Option Tmp) (ty : TypeId) (pos : String) (after : Array Edge) (guard : Option (Nat × Bool)) :
    execOp ρ ⟨dst, .alloc 118, ty, pos, after, guard⟩ = allocRow 118 := rfl
@[go_sem] theorem run_alloc_b64 (W : World) : (allocRow 118).run Try.prog W = .ok (.value (.pointer (some ⟨W.heap.size, 0, none⟩))) (W.alloc (.cells (b8A zb64) 118)) :=
  run_allocRow _ (.agg (b8A zb64)) (by kernel_rfl) W
@[go_sem ↓] theorem exec_alloc_dig (ρ : Operand → Value) (dst : Option Tmp) (ty : TypeId) (pos : String) (after : Array Edge) (guard : Option (Nat × Bool)) :
    execOp ρ ⟨dst, .alloc 40, ty, pos, after, guard⟩ = allocRow 40 := rfl
@[go_sem] theorem run_alloc_dig (W : World) : (allocRow 40).run Try.prog W = .ok (.value (.pointer (some ⟨W.heap.size, 0, none⟩))) (W.alloc (.cells (dA dig0) 40)) :=
  run_allocRow _ (.agg (dA dig0)) (by kernel_rfl) W

/-- the first k elements' values, then z -/
def fillV {α : Type} (f : α → Value) (z : Value) (L : List α) (n k : Nat) : List Value := (L.take k).map f ++ List.replicate (n - k) z
theorem fillV_set {α : Type} (f : α → Value) (z : Value) {L : List α} {n k : Nat} (hk : k < n) (hl : k < L.length) : (fillV f z L n k).set k (f L[k]) = fillV f z L n (k + 1) := by
  unfold fillV
  have h1 : ((L.take k).map f).length = k := by simp; omega
  rw [List.set_append_right _ _ (by omega), h1, Nat.sub_self, show n - k = (n - (k + 1)) + 1 by omega, List.replicate_succ, List.set_cons_zero, List.take_succ_eq_append_getElem hl, List.map_append]
  simp
theorem fillV_zero {α : Type} (f : α → Value) (z : Value) {L : List α} {n k : Nat} (hk : k < n) (hl : k < L.length) : (fillV f z L n k)[k]? = some z := by
  unfold fillV
  have h1 : ((L.take k).map f).length = k := by simp; omega
  rw [List.getElem?_append_right (by omega), h1, Nat.sub_self, List.getElem?_replicate, if_pos (by omega)]
theorem fillV_all {α : Type} (f : α → Value) (z : Value) {L : List α} {n : Nat} (hl : L.length = n) : fillV f z L n n = L.map f := by
  unfold fillV
  rw [Nat.sub_self, ← hl, List.take_length]
  simp

def startM : List Int := (primesTo 18).map fun p => rootW p 2
def rootsM : List Int := (primesTo 310).map fun p => rootW p 3

set_option maxHeartbeats 1000000 in
theorem sha_start (w : World) : Calls Try.prog 75 #[] w fun e w' => e = .returned (.agg (w32A startM)) ∧ Kept w w' := by
  have hP := sha_primes 8 18 (by omega) primes_8.1 (fun k hk => by
    have h1 := primes_le (j := k) (k := 17) (by omega)
    have h2 := primes_8.2
    omega)
  have h5 : ∀ p ∈ primesTo 18, p < 65536 := fun p hp => by have := primes_pos 18 p hp; omega
  have hlen := primes_8.1
  rw [show startM = (primesTo 18).map fun p => rootW p 2 from rfl]
  generalize primesTo 18 = L at *
  have H5 := Lib.hid h5
  have HL := Lib.hid hlen
  clear h5 hlen
  have hb0 : Blk (w.alloc (.cells (w32A zw8) 117)) w.heap.size 117 (fillV (fun p => .int .u32 (rootW p 2)) (.int .u32 0) L 8 0) := by
    have := Blk.new w 117 (fillV (fun p => .int .u32 (rootW p 2)) (.int .u32 0) L 8 0)
    rwa [show (fillV (fun p => .int .u32 (rootW p 2)) (.int .u32 0) L 8 0).toArray = w32A zw8 by simp [fillV, w32A, zw8]] at this
  have hk0 : Kept w (w.alloc (.cells (w32A zw8) 117)) := (Upd.refl _ w).alloc _
  have HZ := Lib.hid hb0.lt
  go_enter Try.func75, Try.ntmps75
  go_wp2_with fail
  generalize w.alloc (.cells (w32A zw8) 117) = W0 at *
  refine (hP _).mono ?_
  rintro e w1 ⟨v, rfl, ho, hu⟩
  have hb1 := hb0.kept hu
  have hk1 : Kept w w1 := hk0.then hu fun _ _ h => h
  obtain ⟨A, c, rfl⟩ := ho.form
  have HK := Lib.hid (And.intro hk1 (And.intro hb1 ho))
  clear hb0 hk0 hP hu hk1 hb1 ho
  rw [HL.out]
  go_wp2_with fail
  go_loopw [5] (fun i wr => ∃ k : Nat, k ≤ 8 ∧ i = .int .i64 k ∧ Blk wr w.heap.size 117 (fillV (fun p => .int .u32 (rootW p 2)) (.int .u32 0) L 8 k) ∧ Kept w wr ∧ OwnU64 wr W0.heap.size (.slice A L.length c) L) (fun i _ => 8 - (intOf i).toNat)
  case atStart => exact ⟨0, Nat.zero_le _, rfl, HK.out.2.1, HK.out.1, HK.out.2.2⟩
  case round =>
    obtain ⟨k, hk, rfl, hb, hu, ho⟩ := hrel
    have HB := Lib.hid (And.intro hb (And.intro hu ho))
    rcases Nat.lt_or_ge k 8 with hlt | hge
    · have hkl : k < L.length := by have := HL.out; omega
      obtain ⟨g, c', e, hc⟩ := ho.get hkl
      simp only [Value.slice.injEq, true_and] at e
      obtain ⟨rfl, rfl⟩ := e
      have hp5 := H5.out L[k] (by simp)
      have HS : Hid ((fillV (fun p => .int .u32 (rootW p 2)) (.int .u32 0) L 8 k).set k (.int .u32 (rootW (L[k]) 2)) = fillV (fun p => .int .u32 (rootW p 2)) (.int .u32 0) L 8 (k + 1)) := fillV_set _ _ hlt hkl
      generalize L[k] = p at *
      clear hb hu ho
      go_wp2_with fail
      refine (sha_root p 2 (by omega) hp5 _).mono ?_
      rintro e w2 ⟨rfl, hu2⟩
      have hb2 := HB.out.1.kept hu2
      have c2 : w2.cell? ⟨w.heap.size, k, none⟩ = some (.int .u32 0) := hb2.cell (fillV_zero _ _ hlt (by have := HL.out; omega))
      have z2 := hb2.thaw k
      have HB2 := Lib.hid (And.intro hb2 hu2)
      clear hb2 hu2
      go_wp2_with fail
      go_roundw
      case rel =>
        refine ⟨k + 1, by omega, by go_num, ?_, ?_, ?_⟩
        · have := HB2.out.1.set k (.int .u32 (rootW p 2))
          rwa [HS.out] at this
        · exact (HB.out.2.1.then HB2.out.2 fun _ _ h => h).setCell (p := ⟨w.heap.size, k, none⟩) _ (fun h => absurd h (Nat.lt_irrefl _))
        · refine OwnU64.upd (HB.out.2.2) (S := fun i => i = w.heap.size) ((HB2.out.2.mono fun _ _ h => h.elim).setCell (p := ⟨w.heap.size, k, none⟩) _ fun _ => rfl) fun i hi e => ?_
          have h1 := World.ownsRow.lt HB.out.2.2 i hi
          have h2 := HZ.out
          omega
      case measure => simp [intOf]; omega
    · obtain rfl : k = 8 := by omega
      have hs := hb.seg 0 8 (L.map fun p => .int .u32 (rootW p 2)) (by simp [HL.out]) (fun j hj => by rw [fillV_all _ _ HL.out, Nat.zero_add])
      have hr : rowB wr w.heap.size 8 = true := by
        have h := hb
        unfold Blk at h
        exact rowB_of h (by rw [fillV_all _ _ HL.out]; simp [HL.out])
      have hw : wr.setRow w.heap.size (w32A (L.map fun p => rootW p 2)) = wr := by
        have h := hb
        unfold Blk at h
        rw [fillV_all _ _ HL.out] at h
        have := setRow_self wr w.heap.size _ _ _ h
        rwa [show w32A (L.map fun p => rootW p 2) = (L.map fun p => Value.int .u32 (rootW p 2)).toArray by simp [w32A, Function.comp_def]]
      obtain ⟨s1, s2⟩ := hs
      replace s2 : segV wr ⟨w.heap.size, 0, none⟩ 8 = w32A (L.map fun p => rootW p 2) := by rw [s2]; simp [w32A, Function.comp_def]
      have hsz : (w32A (L.map fun p => rootW p 2)).size = 8 := by rw [w32A_size, List.length_map, HL.out]
      clear hb hu ho
      generalize hR : L.map (fun p => rootW p 2) = R at *
      have HR := Lib.hid hR
      clear hR
      have HF : Hid (Kept w wr) := HB.out.2.1
      go_wp2
      refine bodyPost_ret (v := .agg (w32A R)) ?_ rfl ⟨by rw [HR.out], HF.out⟩
      rw [results_seg (P := Try.prog) (fn := Try.f75) rfl _ _ ⟨w.heap.size, 0, none⟩ 8 _ rfl Try.underlying117 rfl sizeOf117 s1, s2]
set_option maxHeartbeats 1000000 in
theorem sha_roots (w : World) : Calls Try.prog 74 #[] w fun e w' => e = .returned (.agg (w32A rootsM)) ∧ Kept w w' := by
  have hP := sha_primes 64 310 (by omega) primes_64.1 (fun k hk => by
    have h1 := primes_le (j := k) (k := 309) (by omega)
    have h2 := primes_64.2
    omega)
  have h5 : ∀ p ∈ primesTo 310, p < 65536 := fun p hp => by have := primes_pos 310 p hp; omega
  have hlen := primes_64.1
  rw [show rootsM = (primesTo 310).map fun p => rootW p 3 from rfl]
  generalize primesTo 310 = L at *
  have H5 := Lib.hid h5
  have HL := Lib.hid hlen
  clear h5 hlen
  have hb0 : Blk (w.alloc (.cells (w32A zw64) 116)) w.heap.size 116 (fillV (fun p => .int .u32 (rootW p 3)) (.int .u32 0) L 64 0) := by
    have := Blk.new w 116 (fillV (fun p => .int .u32 (rootW p 3)) (.int .u32 0) L 64 0)
    rwa [show (fillV (fun p => .int .u32 (rootW p 3)) (.int .u32 0) L 64 0).toArray = w32A zw64 by simp [fillV, w32A, zw64]] at this
  have hk0 : Kept w (w.alloc (.cells (w32A zw64) 116)) := (Upd.refl _ w).alloc _
  have HZ := Lib.hid hb0.lt
  go_enter Try.func74, Try.ntmps74
  go_wp2_with fail
  generalize w.alloc (.cells (w32A zw64) 116) = W0 at *
  refine (hP _).mono ?_
  rintro e w1 ⟨v, rfl, ho, hu⟩
  have hb1 := hb0.kept hu
  have hk1 : Kept w w1 := hk0.then hu fun _ _ h => h
  obtain ⟨A, c, rfl⟩ := ho.form
  have HK := Lib.hid (And.intro hk1 (And.intro hb1 ho))
  clear hb0 hk0 hP hu hk1 hb1 ho
  rw [HL.out]
  go_wp2_with fail
  go_loopw [5] (fun i wr => ∃ k : Nat, k ≤ 64 ∧ i = .int .i64 k ∧ Blk wr w.heap.size 116 (fillV (fun p => .int .u32 (rootW p 3)) (.int .u32 0) L 64 k) ∧ Kept w wr ∧ OwnU64 wr W0.heap.size (.slice A L.length c) L) (fun i _ => 64 - (intOf i).toNat)
  case atStart => exact ⟨0, Nat.zero_le _, rfl, HK.out.2.1, HK.out.1, HK.out.2.2⟩
  case round =>
    obtain ⟨k, hk, rfl, hb, hu, ho⟩ := hrel
    have HB := Lib.hid (And.intro hb (And.intro hu ho))
    rcases Nat.lt_or_ge k 64 with hlt | hge
    · have hkl : k < L.length := by have := HL.out; omega
      obtain ⟨g, c', e, hc⟩ := ho.get hkl
      simp only [Value.slice.injEq, true_and] at e
      obtain ⟨rfl, rfl⟩ := e
      have hp5 := H5.out L[k] (by simp)
      have HS : Hid ((fillV (fun p => .int .u32 (rootW p 3)) (.int .u32 0) L 64 k).set k (.int .u32 (rootW (L[k]) 3)) = fillV (fun p => .int .u32 (rootW p 3)) (.int .u32 0) L 64 (k + 1)) := fillV_set _ _ hlt hkl
      generalize L[k] = p at *
      clear hb hu ho
      go_wp2_with fail
      refine (sha_root p 3 (by omega) hp5 _).mono ?_
      rintro e w2 ⟨rfl, hu2⟩
      have hb2 := HB.out.1.kept hu2
      have c2 : w2.cell? ⟨w.heap.size, k, none⟩ = some (.int .u32 0) := hb2.cell (fillV_zero _ _ hlt (by have := HL.out; omega))
      have z2 := hb2.thaw k
      have HB2 := Lib.hid (And.intro hb2 hu2)
      clear hb2 hu2
      go_wp2_with fail
      go_roundw
      case rel =>
        refine ⟨k + 1, by omega, by go_num, ?_, ?_, ?_⟩
        · have := HB2.out.1.set k (.int .u32 (rootW p 3))
          rwa [HS.out] at this
        · exact (HB.out.2.1.then HB2.out.2 fun _ _ h => h).setCell (p := ⟨w.heap.size, k, none⟩) _ (fun h => absurd h (Nat.lt_irrefl _))
        · refine OwnU64.upd (HB.out.2.2) (S := fun i => i = w.heap.size) ((HB2.out.2.mono fun _ _ h => h.elim).setCell (p := ⟨w.heap.size, k, none⟩) _ fun _ => rfl) fun i hi e => ?_
          have h1 := World.ownsRow.lt HB.out.2.2 i hi
          have h2 := HZ.out
          omega
      case measure => simp [intOf]; omega
    · obtain rfl : k = 64 := by omega
      have hs := hb.seg 0 64 (L.map fun p => .int .u32 (rootW p 3)) (by simp [HL.out]) (fun j hj => by rw [fillV_all _ _ HL.out, Nat.zero_add])
      have hr : rowB wr w.heap.size 64 = true := by
        have h := hb
        unfold Blk at h
        exact rowB_of h (by rw [fillV_all _ _ HL.out]; simp [HL.out])
      have hw : wr.setRow w.heap.size (w32A (L.map fun p => rootW p 3)) = wr := by
        have h := hb
        unfold Blk at h
        rw [fillV_all _ _ HL.out] at h
        have := setRow_self wr w.heap.size _ _ _ h
        rwa [show w32A (L.map fun p => rootW p 3) = (L.map fun p => Value.int .u32 (rootW p 3)).toArray by simp [w32A, Function.comp_def]]
      obtain ⟨s1, s2⟩ := hs
      replace s2 : segV wr ⟨w.heap.size, 0, none⟩ 64 = w32A (L.map fun p => rootW p 3) := by rw [s2]; simp [w32A, Function.comp_def]
      have hsz : (w32A (L.map fun p => rootW p 3)).size = 64 := by rw [w32A_size, List.length_map, HL.out]
      clear hb hu ho
      generalize hR : L.map (fun p => rootW p 3) = R at *
      have HR := Lib.hid hR
      clear hR
      have HF : Hid (Kept w wr) := HB.out.2.1
      go_wp2
      refine bodyPost_ret (v := .agg (w32A R)) ?_ rfl ⟨by rw [HR.out], HF.out⟩
      rw [results_seg (P := Try.prog) (fn := Try.f74) rfl _ _ ⟨w.heap.size, 0, none⟩ 64 _ rfl Try.underlying116 rfl sizeOf116 s1, s2]
theorem startM_length : startM.length = 8 := by rw [startM, List.length_map]; exact primes_8.1
theorem rootsM_length : rootsM.length = 64 := by rw [rootsM, List.length_map]; exact primes_64.1
attribute [irreducible] startM rootsM
end Go.Proofs.Ytjimamgghkgdeaa
