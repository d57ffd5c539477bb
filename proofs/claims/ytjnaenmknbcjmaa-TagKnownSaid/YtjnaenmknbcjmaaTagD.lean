/- The statements' helpers: digest, Bring, works. -/
import Derived.Test.YtjnaenmknbcjmaaTagC
namespace Go.Proofs.Ytjnaenmknbcjmaa
open Go.RowKit

/-- the digest that a byte tells -/
def digI (x : Int) : Dig := ⟨UInt8.ofNat x.toNat :: 1 :: List.replicate 30 0, by simp⟩
theorem digI_inj {x y : Int} (hx : 0 ≤ x) (hx' : x ≤ 255) (hy : 0 ≤ y) (hy' : y ≤ 255) (h : digI x = digI y) : x = y := by
  have h1 := congrArg (fun d : Dig => d.1.head?) h
  simp only [digI, List.head?_cons, Option.some.injEq] at h1
  have h2 := congrArg UInt8.toNat h1
  simp only [UInt8.toNat_ofNat'] at h2
  omega

@[go_sem ↓] theorem exec_build_dig (ρ : Operand → Value) (dst : Option Tmp) (parts : Array (Nat × Operand)) (ty : TypeId) (pos : String) (after : Array Edge) (guard : Option (Nat × Bool)) :
    execOp ρ ⟨dst, .build 28 parts, ty, pos, after, guard⟩ = buildRow 28 (parts.map fun (i, x) => (i, ρ x)) := rfl
theorem dA_digI (x : Int) (h0 : 0 ≤ x) (h1 : x ≤ 255) : dA (digI x) = (.int .u8 x :: .int .u8 1 :: List.replicate 30 (.int .u8 0)).toArray := by
  have e : ((UInt8.ofNat x.toNat).toNat : Int) = x := by simp only [UInt8.toNat_ofNat']; omega
  have e0 : ((0 : UInt8).toNat : Int) = 0 := rfl
  have e1 : ((1 : UInt8).toNat : Int) = 1 := rfl
  simp only [dA, digI, encB, List.map_cons, List.map_replicate, e, e0, e1]
@[go_sem] theorem run_build_digest (x : Int) (h0 : 0 ≤ x) (h1 : x ≤ 255) (W : World) :
    (buildRow 28 #[(0, .int .u8 x), (1, .int .u8 1)]).run Try.prog W = .ok (.value (.agg (dA (digI x)))) W := by
  have h := run_build (P := Try.prog) W 28 #[(0, .int .u8 x), (1, .int .u8 1)] _ (by kernel_rfl : _ = some (.int .u8 x :: .int .u8 1 :: List.replicate 30 (.int .u8 0)).toArray)
  simp [buildRow, h, Result.andThen, dA_digI x h0 h1]

@[go_sem ↓] theorem exec_alloc_dig (ρ : Operand → Value) (dst : Option Tmp) (ty : TypeId) (pos : String) (after : Array Edge) (guard : Option (Nat × Bool)) :
    execOp ρ ⟨dst, .alloc 28, ty, pos, after, guard⟩ = allocRow 28 := rfl
@[go_sem] theorem run_alloc_dig (W : World) : (allocRow 28).run Try.prog W = .ok (.value (.pointer (some ⟨W.heap.size, 0, none⟩))) (W.alloc (.cells (dA dig0) 28)) :=
  run_allocRow _ (.agg (dA dig0)) (by kernel_rfl) W

theorem law_digest (x : Int) (h0 : 0 ≤ x) (h1 : x ≤ 255) (w : World) :
    Calls Try.prog 17 #[.int .u8 x] w fun e w' => e = .returned (.agg (dA (digI x))) ∧ Kept w w' := by
  go_enter Try.func17, Try.ntmps17
  go_wp2
  refine bodyPost_ret (v := .agg (dA (digI x))) ?_ rfl ⟨rfl, (Upd.refl _ w).alloc _⟩
  rw [results_seg (P := Try.prog) (fn := Try.f17) rfl _ _ ⟨w.heap.size, 0, none⟩ 32 _ rfl Try.underlying28 rfl sizeOf28 (segB_new _ _ _ _ _ rfl (dA_size _)), segV_new _ _ _ _ _ rfl (dA_size _)]

/-- Bring, below a positive number -/
theorem ref_Bring (i n : Int) (hi : (Lit.int .i64 i).wf = true) (hn : 1 ≤ n) (hn' : n ≤ 4611686018427387904) (w : World) :
    Calls Try.prog 19 #[.int .i64 i, .int .i64 n] w fun e w' => e = .returned (.int .i64 (i % n)) ∧ w = w' := by
  have hx : -9223372036854775808 ≤ i ∧ i ≤ 9223372036854775807 := by simpa [Lit.wf, IntKind.min, IntKind.max, IntKind.signed, IntKind.bits] using hi
  clear hi
  obtain ⟨h1, h2⟩ := hx
  by_cases h0 : 0 ≤ i
  · have hm : 0 ≤ i % n := Int.emod_nonneg _ (by omega)
    go_enter Try.func19, Try.ntmps19
    go_wp2
    go_ret
    exact ⟨rfl, rfl⟩
  · have hlo : -n < i.tmod n := Int.lt_tmod_of_pos i (by omega)
    have HT : Hid (i.tmod n = if n ∣ i then i % n else i % n - n) := by
      have ht := Int.tmod_eq_emod (a := i) (b := n)
      show _ = _
      rw [ht]
      by_cases hd : n ∣ i
      · simp [hd]
      · rw [if_neg (by omega), if_neg hd]; omega
    have hm : 0 ≤ i % n := Int.emod_nonneg _ (by omega)
    have hm' : i % n < n := Int.emod_lt_of_pos _ (by omega)
    have hhi : i.tmod n ≤ 0 := by
      have ht := HT.out
      split at ht
      · rename_i hdv; have := Int.emod_eq_zero_of_dvd hdv; omega
      · omega
    by_cases hd : i.tmod n < 0
    · go_enter Try.func19, Try.ntmps19
      go_wp2
      go_ret
      refine ⟨?_, rfl⟩
      have ht := HT.out
      have : i.tmod n + n = i % n := by
        split at ht <;> omega
      rw [this]; rfl
    · go_enter Try.func19, Try.ntmps19
      go_wp2
      go_ret
      refine ⟨?_, rfl⟩
      have ht := HT.out
      have : i.tmod n = i % n := by
        split at ht <;> omega
      rw [this]; rfl

theorem mod_range (i n : Int) (hn : 1 ≤ n) : 0 ≤ i % n ∧ i % n < n := ⟨Int.emod_nonneg _ (by omega), Int.emod_lt_of_pos _ (by omega)⟩
end Go.Proofs.Ytjnaenmknbcjmaa
