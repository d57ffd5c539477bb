/- sha: turned words, products, roots, primes. -/
import Derived.Test.YtjimamgghkgdeaaAgg
import Derived.Test.YtjimamgghkgdeaaMild
import Derived.Lib.Mul64
import Derived.Lib.Hide
import Derived.Laws.Bits64b
import Derived.Laws.BitsAll
namespace Go.Proofs.Ytjimamgghkgdeaa
open Go.RowKit

/-- a word turned right -/
def rorM (x : Int) (n : Nat) : Int := bits .or .u32 (IntKind.u32.wrap (x * 2 ^ (32 - n))) (x / 2 ^ n)

theorem bits_Rotate (x k : Int) (m : Nat) (h : bits .and .u64 (IntKind.u64.wrap k) 31 = (m : Int)) (hm : m ≤ 31) (w : World) : Calls Try.prog 86 #[.int .u32 x, .int .i64 k] w fun e w' => e = .returned (.int .u32 (rorM x (32 - m))) ∧ w = w' := by
  have h2 : IntKind.u64.wrap (32 - (m : Int)) = ((32 - m : Nat) : Int) := by rw [IntKind.wrap_u64]; omega
  have h3 : min m 32 = m := by omega
  have h4 : min (32 - m) 32 = 32 - m := by omega
  have h5 : 32 - (32 - m) = m := by omega
  unfold rorM
  rw [h5]
  have HM := Lib.hid hm
  clear hm
  go_enter Try.func86, Try.ntmps86
  go_wp2
  go_ret
  exact ⟨rfl, rfl⟩

theorem sha_ror (x : Int) (n : Nat) (hn : n ∈ [2, 6, 7, 11, 13, 17, 18, 19, 22, 25]) (w : World) : Calls Try.prog 76 #[.int .u32 x, .int .i64 n] w fun e w' => e = .returned (.int .u32 (rorM x n)) ∧ w = w' := by
  have h : bits .and .u64 (IntKind.u64.wrap (-(n : Int))) 31 = ((32 - n : Nat) : Int) ∧ 32 - n ≤ 31 ∧ IntKind.i64.wrap (-(n : Int)) = -(n : Int) ∧ 32 - (32 - n) = n := by
    simp only [List.mem_cons, List.mem_nil_iff, or_false] at hn
    rcases hn with rfl | rfl | rfl | rfl | rfl | rfl | rfl | rfl | rfl | rfl <;> exact ⟨by decide, by decide, by decide, by decide⟩
  obtain ⟨h1, h2, h3, h4⟩ := h
  clear hn
  have HR := Lib.hid (bits_Rotate x (-(n : Int)) (32 - n) h1 h2 w)
  rw [h4] at HR
  clear h1 h2 h4
  go_enter Try.func76, Try.ntmps76
  go_wp2_with fail
  refine HR.out.mono ?_
  rintro e w' ⟨rfl, rfl⟩
  go_wp2
  go_ret
  exact ⟨rfl, rfl⟩

set_option maxHeartbeats 1000000 in
theorem bits_Mul64 (x y : Nat) (hx : x < 18446744073709551616) (hy : y < 18446744073709551616) (w : World) :
    Calls Try.prog 69 #[.int .u64 x, .int .u64 y] w fun e w' => e = .returned (.tuple #[.int .u64 ((x * y / 18446744073709551616 : Nat) : Int), .int .u64 ((x * y % 18446744073709551616 : Nat) : Int)]) ∧ w = w' := by
  obtain ⟨bd, bt, bw, hhi⟩ := Lib.mul64_hi x y hx hy
  have ba := Lib.half_mul_le (a := x / 4294967296) (b := y / 4294967296) (by omega) (by omega)
  have bb := Lib.half_mul_le (a := x / 4294967296) (b := y % 4294967296) (by omega) (by omega)
  have bc := Lib.half_mul_le (a := x % 4294967296) (b := y / 4294967296) (by omega) (by omega)
  have ba' : x / 4294967296 * (y / 4294967296) < 18446744073709551616 := by omega
  have bb' : x / 4294967296 * (y % 4294967296) < 18446744073709551616 := by omega
  have bc' : x % 4294967296 * (y / 4294967296) < 18446744073709551616 := by omega
  have bh1 : x / 4294967296 * (y / 4294967296) + (x / 4294967296 * (y % 4294967296) + x % 4294967296 * (y % 4294967296) / 4294967296) / 4294967296 < 18446744073709551616 := by omega
  have bh : x / 4294967296 * (y / 4294967296) + (x / 4294967296 * (y % 4294967296) + x % 4294967296 * (y % 4294967296) / 4294967296) / 4294967296 + ((x / 4294967296 * (y % 4294967296) + x % 4294967296 * (y % 4294967296) / 4294967296) % 4294967296 + x % 4294967296 * (y / 4294967296)) / 4294967296 < 18446744073709551616 := by omega
  have maskN : ∀ (a : Nat), a < 18446744073709551616 → bits .and .u64 (a : Int) 4294967295 = ((a % 4294967296 : Nat) : Int) := fun a ha => by
    have h := bits_and_u64_nat a 4294967295 ha (by omega)
    have e : a &&& 4294967295 = a % 4294967296 := Nat.and_two_pow_sub_one_eq_mod a 32
    rw [e] at h
    exact h
  have divN : ∀ (a : Nat), (a : Int) / 4294967296 = ((a / 4294967296 : Nat) : Int) := fun a => by omega
  have mulN : ∀ (a b : Nat), (a : Int) * (b : Int) = ((a * b : Nat) : Int) := fun a b => (Int.natCast_mul a b).symm
  have addN : ∀ (a b : Nat), (a : Int) + (b : Int) = ((a + b : Nat) : Int) := fun a b => (Int.natCast_add a b).symm
  have wrapN : ∀ (a : Nat), a < 18446744073709551616 → IntKind.u64.wrap (a : Int) = (a : Int) := fun a ha => by rw [IntKind.wrap_u64]; omega
  have wrapM : ∀ (a : Nat), IntKind.u64.wrap (a : Int) = ((a % 18446744073709551616 : Nat) : Int) := fun a => by rw [IntKind.wrap_u64]; omega
  have H := Lib.hid (And.intro maskN (And.intro divN (And.intro mulN (And.intro addN (And.intro wrapN wrapM)))))
  clear maskN divN mulN addN wrapN wrapM
  go_enter Try.func69, Try.ntmps69
  go_wp2
  obtain ⟨maskN, divN, mulN, addN, wrapN, wrapM⟩ := H.out
  simp only [maskN x hx, maskN y hy, divN, mulN, addN, wrapN _ bd, wrapN _ bb', wrapN _ bt, maskN _ bt, wrapN _ bc', wrapN _ bw, wrapN _ ba', wrapN _ bh1, wrapN _ bh, wrapM (x * y)]
  rw [hhi]
  go_ret2
  exact ⟨rfl, rfl⟩
end Go.Proofs.Ytjimamgghkgdeaa
