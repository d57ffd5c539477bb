/- sha: within, root, primes. -/
import Derived.Test.YtjimamgghkgdeaaShaA
import Derived.Test.YtjimamgghkgdeaaCut
import Derived.Test.YtjimamgghkgdeaaArr
import Derived.Test.YtjimamgghkgdeaaLev
import Derived.Shelf.Spec.BitsCarry
namespace Go.Proofs.Ytjimamgghkgdeaa
open Go.RowKit

theorem run_Add64 (x y : Nat) (w : World) : (callFunc 103 #[.int .u64 x, .int .u64 y, .int .u64 0]).run Try.prog w =
      .ok (.value (.tuple #[.int .u64 (((x + y) % 18446744073709551616 : Nat) : Int), .int .u64 (((x + y) / 18446744073709551616 : Nat) : Int)])) w := by
  rw [run_callFunc_extern (f := 103) Try.func103 (by kernel_rfl) (by kernel_rfl) (by kernel_rfl) (e := add64Entry) (by kernel_rfl)]
  rw [run_add64 x y 0 (by omega) (by omega) (by omega) (by omega)]
  simp only [Result.andThen]
  congr 5 <;> omega

/-- is (h, l) at most a prime times 2^64? -/
def within2 (h l p : Nat) : Bool := decide (h < p) || (decide (h = p) && decide (l = 0))
theorem sha_within2 (x p : Nat) (hx : x < 137438953472) (hp : p < 65536) (w : World) : Calls Try.prog 94 #[.int .u64 x, .int .u64 p, .int .i64 2] w fun e w' => e = .returned (.bool (within2 (x * x / 18446744073709551616) (x * x % 18446744073709551616) p)) ∧ w = w' := by
  have HM := Lib.hid (bits_Mul64 x x (by omega) (by omega))
  generalize x * x / 18446744073709551616 = h at *
  generalize x * x % 18446744073709551616 = l at *
  have HW : Hid (within2 h l p = (decide (h < p) || (decide (h = p) && decide (l = 0)))) := rfl
  by_cases h1 : h < p
  · have h1' : (h : Int) < (p : Int) := by omega
    go_enter Try.func94, Try.ntmps94
    go_wp2_with fail
    refine (HM.out _).mono ?_
    rintro e w' ⟨rfl, rfl⟩
    go_wp2
    go_ret
    exact ⟨by rw [HW.out]; simp [h1], rfl⟩
  · have h1' : ¬ (h : Int) < (p : Int) := by omega
    by_cases h2 : h = p
    · subst h2
      by_cases h3 : l = 0
      · subst h3
        go_enter Try.func94, Try.ntmps94
        go_wp2_with fail
        refine (HM.out _).mono ?_
        rintro e w' ⟨rfl, rfl⟩
        go_wp2
        go_ret
        exact ⟨by rw [HW.out]; simp, rfl⟩
      · have h3' : ¬ (l : Int) = 0 := by omega
        go_enter Try.func94, Try.ntmps94
        go_wp2_with fail
        refine (HM.out _).mono ?_
        rintro e w' ⟨rfl, rfl⟩
        go_wp2
        go_ret
        exact ⟨by rw [HW.out]; simp [h3], rfl⟩
    · have h2' : ¬ (h : Int) = (p : Int) := by omega
      go_enter Try.func94, Try.ntmps94
      go_wp2_with fail
      refine (HM.out _).mono ?_
      rintro e w' ⟨rfl, rfl⟩
      go_wp2
      go_ret
      exact ⟨by rw [HW.out]; simp [h1, h2], rfl⟩

set_option maxRecDepth 20000 in
theorem sha_within3 (x p : Nat) (hx : x < 137438953472) (hp : p < 65536) (w : World) : Calls Try.prog 94 #[.int .u64 x, .int .u64 p, .int .i64 3] w fun e w' => e = .returned (.bool (within2 (x * x / 18446744073709551616 * x + x * x % 18446744073709551616 * x / 18446744073709551616) (x * x % 18446744073709551616 * x % 18446744073709551616) (p * 4294967296))) ∧ w = w' := by
  have HM := Lib.hid (bits_Mul64 x x (by omega) (by omega))
  have hh : x * x / 18446744073709551616 < 1024 := by
    have : x * x < 137438953472 * 137438953472 := Nat.mul_lt_mul_of_lt_of_lt hx hx
    omega
  generalize x * x / 18446744073709551616 = h at *
  have hl : x * x % 18446744073709551616 < 18446744073709551616 := Nat.mod_lt _ (by omega)
  generalize x * x % 18446744073709551616 = l at *
  have HM3 := Lib.hid (bits_Mul64 l x (by omega) (by omega))
  have ho : l * x / 18446744073709551616 < 137438953472 := by
    have : l * x < 18446744073709551616 * 137438953472 := Nat.mul_lt_mul_of_lt_of_lt hl hx
    omega
  generalize l * x / 18446744073709551616 = o at *
  generalize l * x % 18446744073709551616 = z at *
  have hhx : h * x < 1024 * 137438953472 := Nat.mul_lt_mul_of_lt_of_lt hh hx
  have hm : IntKind.u64.wrap ((h : Int) * (x : Int)) = ((h * x : Nat) : Int) := by rw [← Int.natCast_mul, IntKind.wrap_u64]; omega
  generalize h * x = q at *
  have ha := run_Add64 q o
  have e1 : (q + o) % 18446744073709551616 = q + o := by omega
  have e2 : (q + o) / 18446744073709551616 = 0 := by omega
  rw [e1, e2] at ha
  have hs : IntKind.u64.wrap ((p : Int) * 4294967296) = ((p * 4294967296 : Nat) : Int) := by rw [IntKind.wrap_u64]; omega
  generalize q + o = u at *
  obtain ⟨v, hv⟩ : ∃ v, v = p * 4294967296 := ⟨_, rfl⟩
  rw [← hv] at hs ⊢
  clear hv e1 e2 hh hl ho hhx hx hp
  have HW : Hid (within2 u z v = (decide (u < v) || (decide (u = v) && decide (z = 0)))) := rfl
  by_cases h1 : u < v
  · have h1' : (u : Int) < (v : Int) := by omega
    go_enter Try.func94, Try.ntmps94
    go_wp2_with fail
    refine (HM.out _).mono ?_
    rintro e w' ⟨rfl, rfl⟩
    go_wp2_with fail
    refine (HM3.out _).mono ?_
    rintro e w' ⟨rfl, rfl⟩
    go_wp2
    go_ret
    exact ⟨by rw [HW.out]; simp [h1], rfl⟩
  · have h1' : ¬ (u : Int) < (v : Int) := by omega
    by_cases h2 : u = v
    · subst h2
      by_cases h3 : z = 0
      · subst h3
        go_enter Try.func94, Try.ntmps94
        go_wp2_with fail
        refine (HM.out _).mono ?_
        rintro e w' ⟨rfl, rfl⟩
        go_wp2_with fail
        refine (HM3.out _).mono ?_
        rintro e w' ⟨rfl, rfl⟩
        go_wp2
        go_ret
        exact ⟨by rw [HW.out]; simp, rfl⟩
      · have h3' : ¬ (z : Int) = 0 := by omega
        go_enter Try.func94, Try.ntmps94
        go_wp2_with fail
        refine (HM.out _).mono ?_
        rintro e w' ⟨rfl, rfl⟩
        go_wp2_with fail
        refine (HM3.out _).mono ?_
        rintro e w' ⟨rfl, rfl⟩
        go_wp2
        go_ret
        exact ⟨by rw [HW.out]; simp [h3], rfl⟩
    · have h2' : ¬ (u : Int) = (v : Int) := by omega
      go_enter Try.func94, Try.ntmps94
      go_wp2_with fail
      refine (HM.out _).mono ?_
      rintro e w' ⟨rfl, rfl⟩
      go_wp2_with fail
      refine (HM3.out _).mono ?_
      rintro e w' ⟨rfl, rfl⟩
      go_wp2
      go_ret
      exact ⟨by rw [HW.out]; simp [h1, h2], rfl⟩

/-- is x to a power at most a prime times 2^(32 power)? -/
def withinM (p pow x : Nat) : Bool :=
  if pow = 2 then within2 (x * x / 18446744073709551616) (x * x % 18446744073709551616) p
  else within2 (x * x / 18446744073709551616 * x + x * x % 18446744073709551616 * x / 18446744073709551616) (x * x % 18446744073709551616 * x % 18446744073709551616) (p * 4294967296)
theorem sha_within (x p pow : Nat) (hpow : pow = 2 ∨ pow = 3) (hx : x < 137438953472) (hp : p < 65536) (w : World) : Calls Try.prog 94 #[.int .u64 x, .int .u64 p, .int .i64 pow] w fun e w' => e = .returned (.bool (withinM p pow x)) ∧ w = w' := by
  rcases hpow with rfl | rfl
  · exact sha_within2 x p hx hp w
  · exact sha_within3 x p hx hp w

/-- a root's bits, from the k-th down -/
def rootN (p pow : Nat) : Nat → Nat → Nat
  | 0, x => x
  | k + 1, x => rootN p pow k (if withinM p pow (x ||| 2 ^ k) then x ||| 2 ^ k else x)
def rootW (p pow : Nat) : Int := IntKind.u32.wrap (rootN p pow 37 0 : Nat)

theorem sha_root (p pow : Nat) (hpow : pow = 2 ∨ pow = 3) (hp : p < 65536) (w : World) : Calls Try.prog 85 #[.int .u64 p, .int .i64 pow] w fun e w' => e = .returned (.int .u32 (rootW p pow)) ∧ Kept w w' := by
  have HP := Lib.hid (And.intro hpow hp)
  clear hpow hp
  go_enter Try.func85, Try.ntmps85
  go_wp2_with fail
  go_loopw [5, 6] (fun x b wr => ∃ k y : Nat, k ≤ 37 ∧ x = .int .u64 y ∧ b = .int .u64 (2 ^ k / 2 : Nat) ∧ y < 137438953472 ∧ rootN p pow k y = rootN p pow 37 0 ∧ Kept w wr) (fun _ b _ => (intOf b).toNat)
  case atStart => exact ⟨37, 0, Nat.le_refl _, rfl, rfl, by omega, rfl, Upd.refl _ _⟩
  case round =>
    obtain ⟨k, y, hk, rfl, rfl, hy, hr, hu⟩ := hrel
    cases k with
    | zero =>
      have HR : Hid (rootN p pow 37 0 = y) := hr.symm
      have HU := Lib.hid hu
      clear hr hu
      go_wp2
      go_ret
      exact ⟨by rw [rootW, HR.out]; rfl, HU.out⟩
    | succ k =>
      have e0 : 2 ^ (k + 1) / 2 = 2 ^ k := by rw [Nat.pow_succ]; omega
      have hb : 2 ^ k < 137438953472 := by
        have : 2 ^ k ≤ 2 ^ 36 := Nat.pow_le_pow_right (by omega) (by omega)
        omega
      have hb0 : 0 < 2 ^ k := Nat.pow_pos (by omega)
      have HR : Hid (rootN p pow k (if withinM p pow (y ||| 2 ^ k) then y ||| 2 ^ k else y) = rootN p pow 37 0) := hr
      have ho : y ||| 2 ^ k < 137438953472 := Nat.or_lt_two_pow (n := 37) (by omega) (by omega)
      have hor : bits .or .u64 (y : Int) ((2 ^ k : Nat) : Int) = ((y ||| 2 ^ k : Nat) : Int) := bits_or_u64_nat y (2 ^ k) (by omega) (by omega)
      have HN : Hid (((2 ^ k : Nat) : Int) / 2 = ((2 ^ k / 2 : Nat) : Int)) := by show _ = _; omega
      rw [e0]
      clear hr e0
      generalize hC : 2 ^ k / 2 = c at *
      have HC := Lib.hid hC
      clear hC
      generalize hB : 2 ^ k = b at *
      have HB := Lib.hid hB
      clear hB
      generalize y ||| b = z at *
      have HU := Lib.hid hu
      clear hu
      go_wp2_with fail
      refine (sha_within z p pow HP.out.1 ho HP.out.2 _).mono ?_
      rintro e w' ⟨rfl, rfl⟩
      cases hz : withinM p pow z
      · go_wp2
        go_roundw
        case rel => exact ⟨k, y, by omega, rfl, by rw [HN.out, ← HC.out, ← HB.out], hy, by have := HR.out; rw [hz] at this; simpa using this, HU.out⟩
        case measure => simp [intOf]; omega
      · go_wp2
        go_roundw
        case rel => exact ⟨k, z, by omega, rfl, by rw [HN.out, ← HC.out, ← HB.out], ho, by have := HR.out; rw [hz] at this; simpa using this, HU.out⟩
        case measure => simp [intOf]; omega
end Go.Proofs.Ytjimamgghkgdeaa
