import Derived.Test.YtepjbijhkkjbfaaGreatSetZa
import Derived.Lib.Mul64
import Derived.Lib.Hide
import Derived.Laws.Bits64b
import Derived.Laws.BitsAll
import Derived.Shelf.Spec.BitsCarry
import Derived.WalkMore
set_option linter.unusedVariables false
set_option linter.unusedSimpArgs false
namespace Go.Proofs.YtepjbijhkkjbfaaGreat
open Go.RowKit
def rorM (x : Int) (n : Nat) : Int := bits .or .u32 (IntKind.u32.wrap (x * 2 ^ (32 - n))) (x / 2 ^ n)
theorem bits_Rotate (x k : Int) (m : Nat) (h : bits .and .u64 (IntKind.u64.wrap k) 31 = (m : Int)) (hm : m ≤ 31) (w : World) : Calls Tryz.prog 100 #[.int .u32 x, .int .i64 k] w fun e w' => e = .returned (.int .u32 (rorM x (32 - m))) ∧ w = w' := by
  have h2 : IntKind.u64.wrap (32 - (m : Int)) = ((32 - m : Nat) : Int) := by rw [IntKind.wrap_u64]; omega
  have h3 : min m 32 = m := by omega
  have h4 : min (32 - m) 32 = 32 - m := by omega
  have h5 : 32 - (32 - m) = m := by omega
  unfold rorM; rw [h5]; have HM := Lib.hid hm; clear hm
  go_enter Tryz.func100, Tryz.ntmps100
  go_wp2
  go_ret
  exact ⟨rfl, rfl⟩
theorem sha_ror (x : Int) (n : Nat) (hn : n ∈ [2, 6, 7, 11, 13, 17, 18, 19, 22, 25]) (w : World) : Calls Tryz.prog 90 #[.int .u32 x, .int .i64 n] w fun e w' => e = .returned (.int .u32 (rorM x n)) ∧ w = w' := by
  have h : bits .and .u64 (IntKind.u64.wrap (-(n : Int))) 31 = ((32 - n : Nat) : Int) ∧ 32 - n ≤ 31 ∧ IntKind.i64.wrap (-(n : Int)) = -(n : Int) ∧ 32 - (32 - n) = n := by
    simp only [List.mem_cons, List.mem_nil_iff, or_false] at hn; rcases hn with rfl | rfl | rfl | rfl | rfl | rfl | rfl | rfl | rfl | rfl <;> exact ⟨by decide, by decide, by decide, by decide⟩
  obtain ⟨h1, h2, h3, h4⟩ := h; clear hn; have HR := Lib.hid (bits_Rotate x (-(n : Int)) (32 - n) h1 h2 w); rw [h4] at HR; clear h1 h2 h4
  go_enter Tryz.func90, Tryz.ntmps90
  go_wp2_with fail; refine HR.out.mono ?_; rintro e w' ⟨rfl, rfl⟩; go_wp2
  go_ret
  exact ⟨rfl, rfl⟩
set_option maxHeartbeats 1000000 in
theorem bits_Mul64 (x y : Nat) (hx : x < 18446744073709551616) (hy : y < 18446744073709551616) (w : World) :
    Calls Tryz.prog 81 #[.int .u64 x, .int .u64 y] w fun e w' => e = .returned (.tuple #[.int .u64 ((x * y / 18446744073709551616 : Nat) : Int), .int .u64 ((x * y % 18446744073709551616 : Nat) : Int)]) ∧ w = w' := by
  obtain ⟨bd, bt, bw, hhi⟩ := Lib.mul64_hi x y hx hy; have ba := Lib.half_mul_le (a := x / 4294967296) (b := y / 4294967296) (by omega) (by omega); have bb := Lib.half_mul_le (a := x / 4294967296) (b := y % 4294967296) (by omega) (by omega); have bc := Lib.half_mul_le (a := x % 4294967296) (b := y / 4294967296) (by omega) (by omega); have ba' : x / 4294967296 * (y / 4294967296) < 18446744073709551616 := by omega
  have bb' : x / 4294967296 * (y % 4294967296) < 18446744073709551616 := by omega
  have bc' : x % 4294967296 * (y / 4294967296) < 18446744073709551616 := by omega
  have bh1 : x / 4294967296 * (y / 4294967296) + (x / 4294967296 * (y % 4294967296) + x % 4294967296 * (y % 4294967296) / 4294967296) / 4294967296 < 18446744073709551616 := by omega
  have bh : x / 4294967296 * (y / 4294967296) + (x / 4294967296 * (y % 4294967296) + x % 4294967296 * (y % 4294967296) / 4294967296) / 4294967296 + ((x / 4294967296 * (y % 4294967296) + x % 4294967296 * (y % 4294967296) / 4294967296) % 4294967296 + x % 4294967296 * (y / 4294967296)) / 4294967296 < 18446744073709551616 := by omega
  have maskN : ∀ (a : Nat), a < 18446744073709551616 → bits .and .u64 (a : Int) 4294967295 = ((a % 4294967296 : Nat) : Int) := fun a ha => by
    have h := bits_and_u64_nat a 4294967295 ha (by omega); have e : a &&& 4294967295 = a % 4294967296 := Nat.and_two_pow_sub_one_eq_mod a 32; rw [e] at h; exact h
  have divN : ∀ (a : Nat), (a : Int) / 4294967296 = ((a / 4294967296 : Nat) : Int) := fun a => by omega
  have mulN : ∀ (a b : Nat), (a : Int) * (b : Int) = ((a * b : Nat) : Int) := fun a b => (Int.natCast_mul a b).symm; have addN : ∀ (a b : Nat), (a : Int) + (b : Int) = ((a + b : Nat) : Int) := fun a b => (Int.natCast_add a b).symm; have wrapN : ∀ (a : Nat), a < 18446744073709551616 → IntKind.u64.wrap (a : Int) = (a : Int) := fun a ha => by rw [IntKind.wrap_u64]; omega
  have wrapM : ∀ (a : Nat), IntKind.u64.wrap (a : Int) = ((a % 18446744073709551616 : Nat) : Int) := fun a => by rw [IntKind.wrap_u64]; omega
  have H := Lib.hid (And.intro maskN (And.intro divN (And.intro mulN (And.intro addN (And.intro wrapN wrapM))))); clear maskN divN mulN addN wrapN wrapM
  go_enter Tryz.func81, Tryz.ntmps81
  go_wp2; obtain ⟨maskN, divN, mulN, addN, wrapN, wrapM⟩ := H.out; simp only [maskN x hx, maskN y hy, divN, mulN, addN, wrapN _ bd, wrapN _ bb', wrapN _ bt, maskN _ bt, wrapN _ bc', wrapN _ bw, wrapN _ ba', wrapN _ bh1, wrapN _ bh, wrapM (x * y)]; rw [hhi]
  go_ret2
  exact ⟨rfl, rfl⟩
end Go.Proofs.YtepjbijhkkjbfaaGreat
namespace Go.Proofs.YtepjbijhkkjbfaaGreat
open Go.RowKit
theorem run_Add64 (x y : Nat) (w : World) : (callFunc 114 #[.int .u64 x, .int .u64 y, .int .u64 0]).run Tryz.prog w =
      .ok (.value (.tuple #[.int .u64 (((x + y) % 18446744073709551616 : Nat) : Int), .int .u64 (((x + y) / 18446744073709551616 : Nat) : Int)])) w := by
  rw [run_callFunc_extern (f := 114) Tryz.func114 (by kernel_rfl) (by kernel_rfl) (by kernel_rfl) (e := add64Entry) (by kernel_rfl)]; rw [run_add64 x y 0 (by omega) (by omega) (by omega) (by omega)]; simp only [Result.andThen]
  congr 5 <;> omega
def within2 (h l p : Nat) : Bool := decide (h < p) || (decide (h = p) && decide (l = 0))
theorem sha_within2 (x p : Nat) (hx : x < 137438953472) (hp : p < 65536) (w : World) : Calls Tryz.prog 105 #[.int .u64 x, .int .u64 p, .int .i64 2] w fun e w' => e = .returned (.bool (within2 (x * x / 18446744073709551616) (x * x % 18446744073709551616) p)) ∧ w = w' := by
  have HM := Lib.hid (bits_Mul64 x x (by omega) (by omega)); generalize x * x / 18446744073709551616 = h at *; generalize x * x % 18446744073709551616 = l at *; have HW : Hid (within2 h l p = (decide (h < p) || (decide (h = p) && decide (l = 0)))) := rfl
  by_cases h1 : h < p
  · have h1' : (h : Int) < (p : Int) := by omega
    go_enter Tryz.func105, Tryz.ntmps105
    go_wp2_with fail; refine (HM.out _).mono ?_; rintro e w' ⟨rfl, rfl⟩; go_wp2
    go_ret
    exact ⟨by rw [HW.out]; simp [h1], rfl⟩
  · have h1' : ¬ (h : Int) < (p : Int) := by omega
    by_cases h2 : h = p
    · subst h2
      by_cases h3 : l = 0
      · subst h3
        go_enter Tryz.func105, Tryz.ntmps105
        go_wp2_with fail; refine (HM.out _).mono ?_; rintro e w' ⟨rfl, rfl⟩; go_wp2
        go_ret
        exact ⟨by rw [HW.out]; simp, rfl⟩
      · have h3' : ¬ (l : Int) = 0 := by omega
        go_enter Tryz.func105, Tryz.ntmps105
        go_wp2_with fail; refine (HM.out _).mono ?_; rintro e w' ⟨rfl, rfl⟩; go_wp2
        go_ret
        exact ⟨by rw [HW.out]; simp [h3], rfl⟩
    · have h2' : ¬ (h : Int) = (p : Int) := by omega
      go_enter Tryz.func105, Tryz.ntmps105
      go_wp2_with fail; refine (HM.out _).mono ?_; rintro e w' ⟨rfl, rfl⟩; go_wp2
      go_ret
      exact ⟨by rw [HW.out]; simp [h1, h2], rfl⟩
set_option maxRecDepth 20000 in
theorem sha_within3 (x p : Nat) (hx : x < 137438953472) (hp : p < 65536) (w : World) : Calls Tryz.prog 105 #[.int .u64 x, .int .u64 p, .int .i64 3] w fun e w' => e = .returned (.bool (within2 (x * x / 18446744073709551616 * x + x * x % 18446744073709551616 * x / 18446744073709551616) (x * x % 18446744073709551616 * x % 18446744073709551616) (p * 4294967296))) ∧ w = w' := by
  have HM := Lib.hid (bits_Mul64 x x (by omega) (by omega)); have hh : x * x / 18446744073709551616 < 1024 := by
    have : x * x < 137438953472 * 137438953472 := Nat.mul_lt_mul_of_lt_of_lt hx hx; omega
  generalize x * x / 18446744073709551616 = h at *; have hl : x * x % 18446744073709551616 < 18446744073709551616 := Nat.mod_lt _ (by omega); generalize x * x % 18446744073709551616 = l at *; have HM3 := Lib.hid (bits_Mul64 l x (by omega) (by omega)); have ho : l * x / 18446744073709551616 < 137438953472 := by
    have : l * x < 18446744073709551616 * 137438953472 := Nat.mul_lt_mul_of_lt_of_lt hl hx; omega
  generalize l * x / 18446744073709551616 = o at *; generalize l * x % 18446744073709551616 = z at *; have hhx : h * x < 1024 * 137438953472 := Nat.mul_lt_mul_of_lt_of_lt hh hx; have hm : IntKind.u64.wrap ((h : Int) * (x : Int)) = ((h * x : Nat) : Int) := by rw [← Int.natCast_mul, IntKind.wrap_u64]; omega
  generalize h * x = q at *; have ha := run_Add64 q o; have e1 : (q + o) % 18446744073709551616 = q + o := by omega
  have e2 : (q + o) / 18446744073709551616 = 0 := by omega
  rw [e1, e2] at ha; have hs : IntKind.u64.wrap ((p : Int) * 4294967296) = ((p * 4294967296 : Nat) : Int) := by rw [IntKind.wrap_u64]; omega
  generalize q + o = u at *; obtain ⟨v, hv⟩ : ∃ v, v = p * 4294967296 := ⟨_, rfl⟩; rw [← hv] at hs ⊢; clear hv e1 e2 hh hl ho hhx hx hp; have HW : Hid (within2 u z v = (decide (u < v) || (decide (u = v) && decide (z = 0)))) := rfl
  by_cases h1 : u < v
  · have h1' : (u : Int) < (v : Int) := by omega
    go_enter Tryz.func105, Tryz.ntmps105
    go_wp2_with fail; refine (HM.out _).mono ?_; rintro e w' ⟨rfl, rfl⟩; go_wp2_with fail; refine (HM3.out _).mono ?_; rintro e w' ⟨rfl, rfl⟩; go_wp2
    go_ret
    exact ⟨by rw [HW.out]; simp [h1], rfl⟩
  · have h1' : ¬ (u : Int) < (v : Int) := by omega
    by_cases h2 : u = v
    · subst h2
      by_cases h3 : z = 0
      · subst h3
        go_enter Tryz.func105, Tryz.ntmps105
        go_wp2_with fail; refine (HM.out _).mono ?_; rintro e w' ⟨rfl, rfl⟩; go_wp2_with fail; refine (HM3.out _).mono ?_; rintro e w' ⟨rfl, rfl⟩; go_wp2
        go_ret
        exact ⟨by rw [HW.out]; simp, rfl⟩
      · have h3' : ¬ (z : Int) = 0 := by omega
        go_enter Tryz.func105, Tryz.ntmps105
        go_wp2_with fail; refine (HM.out _).mono ?_; rintro e w' ⟨rfl, rfl⟩; go_wp2_with fail; refine (HM3.out _).mono ?_; rintro e w' ⟨rfl, rfl⟩; go_wp2
        go_ret
        exact ⟨by rw [HW.out]; simp [h3], rfl⟩
    · have h2' : ¬ (u : Int) = (v : Int) := by omega
      go_enter Tryz.func105, Tryz.ntmps105
      go_wp2_with fail; refine (HM.out _).mono ?_; rintro e w' ⟨rfl, rfl⟩; go_wp2_with fail; refine (HM3.out _).mono ?_; rintro e w' ⟨rfl, rfl⟩; go_wp2
      go_ret
      exact ⟨by rw [HW.out]; simp [h1, h2], rfl⟩
def withinM (p pow x : Nat) : Bool :=
  if pow = 2 then within2 (x * x / 18446744073709551616) (x * x % 18446744073709551616) p
  else within2 (x * x / 18446744073709551616 * x + x * x % 18446744073709551616 * x / 18446744073709551616) (x * x % 18446744073709551616 * x % 18446744073709551616) (p * 4294967296)
theorem sha_within (x p pow : Nat) (hpow : pow = 2 ∨ pow = 3) (hx : x < 137438953472) (hp : p < 65536) (w : World) : Calls Tryz.prog 105 #[.int .u64 x, .int .u64 p, .int .i64 pow] w fun e w' => e = .returned (.bool (withinM p pow x)) ∧ w = w' := by
  rcases hpow with rfl | rfl
  · exact sha_within2 x p hx hp w
  · exact sha_within3 x p hx hp w
def rootN (p pow : Nat) : Nat → Nat → Nat
  | 0, x => x
  | k + 1, x => rootN p pow k (if withinM p pow (x ||| 2 ^ k) then x ||| 2 ^ k else x)
def rootW (p pow : Nat) : Int := IntKind.u32.wrap (rootN p pow 37 0 : Nat)
theorem sha_root (p pow : Nat) (hpow : pow = 2 ∨ pow = 3) (hp : p < 65536) (w : World) : Calls Tryz.prog 99 #[.int .u64 p, .int .i64 pow] w fun e w' => e = .returned (.int .u32 (rootW p pow)) ∧ Kept w w' := by
  have HP := Lib.hid (And.intro hpow hp); clear hpow hp
  go_enter Tryz.func99, Tryz.ntmps99
  go_wp2_with fail
  go_loopw [5, 6] (fun x b wr => ∃ k y : Nat, k ≤ 37 ∧ x = .int .u64 y ∧ b = .int .u64 (2 ^ k / 2 : Nat) ∧ y < 137438953472 ∧ rootN p pow k y = rootN p pow 37 0 ∧ Kept w wr) (fun _ b _ => (intOf b).toNat)
  case atStart => exact ⟨37, 0, Nat.le_refl _, rfl, rfl, by omega, rfl, Upd.refl _ _⟩
  case round =>
    obtain ⟨k, y, hk, rfl, rfl, hy, hr, hu⟩ := hrel; cases k with
    | zero =>
      have HR : Hid (rootN p pow 37 0 = y) := hr.symm; have HU := Lib.hid hu; clear hr hu; go_wp2
      go_ret
      exact ⟨by rw [rootW, HR.out]; rfl, HU.out⟩
    | succ k =>
      have e0 : 2 ^ (k + 1) / 2 = 2 ^ k := by rw [Nat.pow_succ]; omega
      have hb : 2 ^ k < 137438953472 := by
        have : 2 ^ k ≤ 2 ^ 36 := Nat.pow_le_pow_right (by omega) (by omega); omega
      have hb0 : 0 < 2 ^ k := Nat.pow_pos (by omega); have HR : Hid (rootN p pow k (if withinM p pow (y ||| 2 ^ k) then y ||| 2 ^ k else y) = rootN p pow 37 0) := hr; have ho : y ||| 2 ^ k < 137438953472 := Nat.or_lt_two_pow (n := 37) (by omega) (by omega)
      have hor : bits .or .u64 (y : Int) ((2 ^ k : Nat) : Int) = ((y ||| 2 ^ k : Nat) : Int) := bits_or_u64_nat y (2 ^ k) (by omega) (by omega); have HN : Hid (((2 ^ k : Nat) : Int) / 2 = ((2 ^ k / 2 : Nat) : Int)) := by show _ = _; omega
      rw [e0]; clear hr e0; generalize hC : 2 ^ k / 2 = c at *; have HC := Lib.hid hC; clear hC; generalize hB : 2 ^ k = b at *; have HB := Lib.hid hB; clear hB; generalize y ||| b = z at *
      have HU := Lib.hid hu; clear hu; go_wp2_with fail; refine (sha_within z p pow HP.out.1 ho HP.out.2 _).mono ?_; rintro e w' ⟨rfl, rfl⟩; cases hz : withinM p pow z
      · go_wp2
        go_roundw
        case rel => exact ⟨k, y, by omega, rfl, by rw [HN.out, ← HC.out, ← HB.out], hy, by have := HR.out; rw [hz] at this; simpa using this, HU.out⟩
        case measure => simp [intOf]; omega
      · go_wp2
        go_roundw
        case rel => exact ⟨k, z, by omega, rfl, by rw [HN.out, ← HC.out, ← HB.out], ho, by have := HR.out; rw [hz] at this; simpa using this, HU.out⟩
        case measure => simp [intOf]; omega
end Go.Proofs.YtepjbijhkkjbfaaGreat
namespace Go.Proofs.YtepjbijhkkjbfaaGreat
open Go.RowKit
def primeStep (l : List Nat) (n : Nat) : List Nat := if l.any (fun p => n % p == 0) then l else l ++ [n]
def primesTo : Nat → List Nat
  | 0 => []
  | k + 1 => primeStep (primesTo k) (k + 2)
theorem primes_pos (k : Nat) : ∀ p ∈ primesTo k, 2 ≤ p ∧ p ≤ k + 1 := by
  induction k with
  | zero => simp [primesTo]
  | succ k ih =>
    intro p hp; simp only [primesTo, primeStep] at hp
    split at hp
    · have := ih p hp; omega
    · rcases List.mem_append.1 hp with hp | hp
      · have := ih p hp; omega
      · simp at hp; omega
theorem primes_mono (k : Nat) : (primesTo k).length ≤ (primesTo (k + 1)).length := by
  simp only [primesTo, primeStep]
  split <;> simp
theorem primes_le {j k : Nat} (h : j ≤ k) : (primesTo j).length ≤ (primesTo k).length := by
  induction k with
  | zero => obtain rfl : j = 0 := by omega
            exact Nat.le_refl _
  | succ k ih =>
    rcases Nat.lt_or_ge k j with h1 | h1
    · obtain rfl : j = k + 1 := by omega
      exact Nat.le_refl _
    · exact Nat.le_trans (ih h1) (primes_mono k)
theorem primes_len (k : Nat) : (primesTo k).length ≤ k := by
  induction k with
  | zero => simp [primesTo]
  | succ k ih =>
    simp only [primesTo, primeStep]
    split
    · omega
    · simp; omega
theorem primes_8 : (primesTo 18).length = 8 ∧ (primesTo 17).length = 7 := by decide +kernel
theorem primes_64 : (primesTo 310).length = 64 ∧ (primesTo 309).length = 63 := by decide +kernel
theorem u64_info : ∃ i, Tryz.prog.info? 160 = some i ∧ i.zero = some (.int .u64 0) ∧ i.size = 1 ∧ i.bytes = 8 := by
  have h : (Tryz.prog.info? 160).map (fun i => (i.zero, i.size, i.bytes)) = some (some (.int .u64 0), 1, 8) := by kernel_rfl
  obtain ⟨i, hi, h2⟩ := Option.map_eq_some_iff.1 h; simp only [Prod.mk.injEq] at h2; exact ⟨i, hi, h2.1, h2.2.1, h2.2.2⟩
def primeV (l : List Nat) : List Value := l.map fun (p : Nat) => Value.int .u64 (p : Int)
def OwnU64 (W : World) (B : Nat) (v : Value) (l : List Nat) : Prop := W.ownsRow B 160 1 v l.length (primeV l)
theorem OwnU64.form {W : World} {B : Nat} {v : Value} {l : List Nat} (h : OwnU64 W B v l) : ∃ A c, v = .slice A l.length c := by
  rcases h.2 with ⟨rfl, h0⟩ | ⟨g, cap, cur, rfl, _⟩
  · exact ⟨_, _, by rw [h0]⟩
  · exact ⟨_, _, rfl⟩
theorem OwnU64.alloc {W : World} {B : Nat} {v : Value} {l : List Nat} (h : OwnU64 W B v l) (o : Obj) : OwnU64 (W.alloc o) B v l :=
  ⟨h.1, h.2.imp id fun ⟨g, cap, cur, hv, hb, hg, hr⟩ => ⟨g, cap, cur, hv, hb, by rw [heap_alloc_old W o (Array.getElem?_eq_some_iff.1 hg).1]; exact hg, hr⟩⟩
theorem OwnU64.upd {W W' : World} {B : Nat} {v : Value} {l : List Nat} {S : Nat → Prop} (h : OwnU64 W B v l) (hu : Upd S W W') (hs : ∀ k, v.ownBlock = some k → ¬ S k) : OwnU64 W' B v l := by
  refine ⟨h.1, h.2.imp id fun ⟨g, cap, cur, hv, hb, hg, hr⟩ => ⟨g, cap, cur, hv, hb, ?_, hr⟩⟩; subst hv; exact hu.heap hg (hs g rfl)
theorem OwnU64.get {W : World} {B : Nat} {v : Value} {l : List Nat} (h : OwnU64 W B v l) {k : Nat} (hk : k < l.length) :
    ∃ g c, v = .slice (some ⟨g, 0, none⟩) l.length c ∧ W.cell? ⟨g, k, none⟩ = some (.int .u64 (l[k] : Nat)) := by
  obtain ⟨g, cap, rfl, hb, hlt⟩ := World.ownsRow.form h (by omega); have := World.ownsRow.cells h (g := g) rfl k (.int .u64 (l[k] : Nat)) (by simp [primeV, hk]); rw [add_none, Nat.zero_add] at this; exact ⟨g, cap, rfl, this⟩
set_option maxHeartbeats 1000000 in
theorem sha_primes (many K : Nat) (hK : K ≤ 400) (hlen : (primesTo K).length = many) (hlt : ∀ k, k < K → (primesTo k).length < many) (w : World) :
    Calls Tryz.prog 98 #[.int .i64 many] w fun e w' => ∃ v, e = .returned v ∧ OwnU64 w' w.heap.size v (primesTo K) ∧ Kept w w' := by
  obtain ⟨i0, hi, hz0, hz1, hz2⟩ := u64_info; have HH := Lib.hid (And.intro hK (And.intro hlen hlt)); have HI := Lib.hid (And.intro hi (And.intro hz0 (And.intro hz1 hz2))); clear hK hlen hlt hi hz0 hz1 hz2
  go_enter Tryz.func98, Tryz.ntmps98
  go_wp2_with fail
  go_step3
  go_wp2_with fail
  go_step3
  go_wp2_with fail
  go_loopw [3, 4] (fun v n wr => ∃ k : Nat, k ≤ K ∧ n = .int .u64 (k + 2 : Nat) ∧ OwnU64 wr w.heap.size v (primesTo k) ∧ Kept w wr) (fun _ n _ => (K + 2) - (intOf n).toNat)
  case atStart => exact ⟨0, Nat.zero_le _, rfl, World.ownsRow_nil _ _ _ _, Upd.refl _ _⟩
  case round =>
    obtain ⟨k, hk, rfl, ho, hu⟩ := hrel; obtain ⟨A, c, rfl⟩ := ho.form; have HP : Hid (∀ p ∈ primesTo k, 2 ≤ p ∧ p ≤ k + 1) := primes_pos k; have HS : Hid (primesTo (k + 1) = primeStep (primesTo k) (k + 2)) := rfl; have HL : Hid ((primesTo k).length ≤ k) := primes_len k
    by_cases hm : (primesTo k).length < many
    · have hkK : k < K := by
        rcases Nat.lt_or_ge k K with h | h
        · exact h
        · obtain rfl : k = K := by omega
          have := HH.out.2.1; omega
      have HO := Lib.hid (And.intro ho hu); have hm' : ((primesTo k).length : Int) < (many : Int) := by omega
      have h400 : k + 2 < 500 := by have := HH.out.1; omega
      have HM : Hid ((primesTo k).length < 500) := by have := HL.out; show _ < _; omega
      clear ho hu hm; generalize primesTo k = l at *; have hl5 : l.length < 500 := HM.out; obtain ⟨n, hn⟩ : ∃ n, n = k + 2 := ⟨_, rfl⟩; rw [← hn] at h400 ⊢; have HNK := Lib.hid hn; clear hn; go_wp2_with fail
      go_loopw [15] (fun i wr2 => ∃ j : Nat, j ≤ l.length ∧ i = .int .i64 j ∧ (∀ p ∈ l.take j, ¬ n % p = 0) ∧ wr = wr2) (fun i _ => l.length - (intOf i).toNat)
      case atStart => exact ⟨0, Nat.zero_le _, rfl, by simp, rfl⟩
      case round =>
        obtain ⟨j, hj, rfl, hno, rfl⟩ := hrel
        by_cases hjl : j < l.length
        · obtain ⟨g, c', e, hc⟩ := HO.out.1.get hjl
          simp only [Value.slice.injEq, true_and] at e; obtain ⟨rfl, rfl⟩ := e; have HT : Hid (∀ p ∈ l.take j, ¬ n % p = 0) := hno; have HG : Hid (l.take (j + 1) = l.take j ++ [l[j]]) := by show _ = _; simp
          have hp2 := (HP.out l[j] (by simp)).1; have HQ := Lib.hid (And.intro (show l[j] ∈ l by simp) (rfl : l[j] = l[j])); have HX : Hid (∃ q, q = l[j] ∧ q ∈ l) := ⟨_, rfl, by simp⟩; clear hno; generalize l[j] = p at *; have hp0 : ¬ (p : Int) = 0 := by omega
          by_cases hd : n % p = 0
          · have hd' : (n : Int) % (p : Int) = 0 := by omega
            have HD := Lib.hid hd; go_wp2
            go_roundw
            case rel =>
              refine ⟨k + 1, by omega, ?_, ?_, HO.out.2⟩
              · show _ = _
                rw [HNK.out]; go_num
              · obtain ⟨q, rfl, hq⟩ := HX.out
                have : primesTo (k + 1) = l := by
                  rw [HS.out, primeStep, if_pos]; rw [List.any_eq_true]; exact ⟨q, hq, by rw [← HNK.out]; simpa using HD.out⟩
                rw [this]; exact HO.out.1
            case measure => have := HNK.out; simp [intOf]; omega
          · have hd' : ¬ (n : Int) % (p : Int) = 0 := by omega
            have HD := Lib.hid hd; go_wp2
            go_roundw
            case rel =>
              refine ⟨j + 1, by omega, by go_num, ?_, trivial⟩; obtain ⟨q, rfl, hq⟩ := HX.out; intro x hx; rw [HG.out] at hx; rcases List.mem_append.1 hx with hx | hx
              · exact HT.out x hx
              · rw [List.mem_singleton.1 hx]; exact HD.out
            case measure => simp [intOf]; omega
        · obtain rfl : j = l.length := by omega
          have HT : Hid (∀ p ∈ l, ¬ n % p = 0) := by have := hno; rw [List.take_length] at this; exact this
          clear hno; obtain ⟨ho, hu⟩ := HO.out; have ho1 : (wr.alloc (.cells #[Value.int .u64 (n : Int)] 160)).ownsRow w.heap.size 160 1 (.slice A l.length c) l.length (primeV l) := ho.alloc _; have hc1 : (wr.alloc (.cells #[Value.int .u64 (n : Int)] 160)).cell? ⟨wr.heap.size, 0, none⟩ = some (.int .u64 (n : Int)) := Blk.cell (Blk.new wr 160 [.int .u64 (n : Int)]) rfl; have hB : w.heap.size ≤ (wr.alloc (.cells #[Value.int .u64 (n : Int)] 160)).heap.size := by rw [World.size_alloc]; have := hu.size; omega
          have HU := Lib.hid (hu.alloc (.cells #[Value.int .u64 (n : Int)] 160)); clear ho hu; have hcs : ∀ j u, [Value.int .u64 (n : Int)][j]? = some u → (wr.alloc (.cells #[Value.int .u64 (n : Int)] 160)).cell? ((⟨wr.heap.size, 0, none⟩ : Addr).add j) = some u := fun j u hu => by
            obtain ⟨hx, rfl⟩ := List.getElem?_eq_some_iff.1 hu; obtain rfl : j = 0 := by simpa using hx
            exact hc1
          have h1s : ∀ u ∈ [Value.int .u64 (n : Int)], u.oneCell' = true := fun u hu => by rw [List.mem_singleton.1 hu]; rfl
          clear hc1; go_wp2_with (at_builtin; generalize wr.alloc (.cells #[Value.int .u64 (n : Int)] 160) = W1 at *; refine wpList_append_own _ rfl (.tmp 24) (.tmp 26) 175 rfl w.heap.size 160 i0 (.int .u64 0) 1 8 Tryz.underlying175 HI.out.1 HI.out.2.1 HI.out.2.2.1 HI.out.2.2.2 rfl (by decide) (.slice A l.length c) l.length (primeV l) rfl ho1 ⟨wr.heap.size, 0, none⟩ 1 1 [.int .u64 (n : Int)] rfl (by simp) hcs h1s (by unfold maxLen; omega) (by omega) (by omega) ?_; intro v' w' hown hgr hnil)
          go_roundw
          case rel =>
            have hpr : primesTo (k + 1) = l ++ [n] := by
              rw [HS.out, primeStep, if_neg, HNK.out]; rw [List.any_eq_true]; rintro ⟨p, hp, hd⟩; have h2 := HT.out p hp; rw [HNK.out] at h2; exact h2 (by simpa using hd)
            refine ⟨k + 1, by omega, ?_, ?_, ?_⟩
            · show _ = _
              rw [HNK.out]; go_num
            · rw [hpr]
              unfold OwnU64; rw [List.length_append, List.length_singleton, show primeV (l ++ [n]) = primeV l ++ [.int .u64 (n : Int)] by simp [primeV]]; exact hown
            · exact HU.out.grown hgr fun k hk e => by
                have := World.ownsRow.lt ho1 k (by simpa using e.symm); omega
          case measure => have := HNK.out; simp [intOf]; omega
    · have hkK : k = K := by
        rcases Nat.lt_or_ge k K with h | h
        · have := HH.out.2.2 k h; omega
        · omega
      subst hkK; have hm' : ¬ ((primesTo k).length : Int) < (many : Int) := by omega
      have HO := Lib.hid (And.intro ho hu); clear ho hu hm; generalize hpk : primesTo k = l at *; have HE := Lib.hid hpk; clear hpk; go_wp2
      first | rw [Exit.noGoto_ret] | skip
      go_ret
      exact ⟨_, rfl, HE.out.symm ▸ HO.out.1, HO.out.2⟩
end Go.Proofs.YtepjbijhkkjbfaaGreat
namespace Go.Proofs.YtepjbijhkkjbfaaGreat
open Go.RowKit
def w32A (L : List Int) : Array Value := (L.map (Value.int .u32)).toArray
def b8A (R : Bytes) : Array Value := (encB R).toArray
@[simp, go_sem] theorem w32A_size (L : List Int) : (w32A L).size = L.length := by simp [w32A]
@[simp, go_sem] theorem b8A_size (R : Bytes) : (b8A R).size = R.length := by simp [b8A, encB_length]
@[simp, go_sem] theorem w32A_one (L : List Int) : oneB (w32A L) = true := by
  simp only [oneB, w32A, List.all_map, List.all_eq_true]; intro b _
  rfl
@[simp, go_sem] theorem b8A_one (R : Bytes) : oneB (b8A R) = true := by
  simp only [oneB, b8A, encB, List.all_map, List.all_eq_true]; intro b _
  rfl
def zw8 : List Int := List.replicate 8 0
def zw64 : List Int := List.replicate 64 0
def zb64 : Bytes := List.replicate 64 0
@[simp, go_sem] theorem zw8_length : zw8.length = 8 := by simp [zw8]
@[simp, go_sem] theorem zw64_length : zw64.length = 64 := by simp [zw64]
@[simp, go_sem] theorem zb64_length : zb64.length = 64 := by simp [zb64]
@[go_sem ↓] theorem exec_alloc_w8 (ρ : Operand → Value) (dst : Option Tmp) (ty : TypeId) (pos : String) (after : Array Edge) (guard : Option (Nat × Bool)) :
    execOp ρ ⟨dst, .alloc 153, ty, pos, after, guard⟩ = allocRow 153 := rfl
@[go_sem] theorem run_alloc_w8 (W : World) : (allocRow 153).run Tryz.prog W = .ok (.value (.pointer (some ⟨W.heap.size, 0, none⟩))) (W.alloc (.cells (w32A zw8) 153)) :=
  run_allocRow _ (.agg (w32A zw8)) (by kernel_rfl) W
@[go_sem ↓] theorem exec_alloc_w64 (ρ : Operand → Value) (dst : Option Tmp) (ty : TypeId) (pos : String) (after : Array Edge) (guard : Option (Nat × Bool)) :
    execOp ρ ⟨dst, .alloc 152, ty, pos, after, guard⟩ = allocRow 152 := rfl
@[go_sem] theorem run_alloc_w64 (W : World) : (allocRow 152).run Tryz.prog W = .ok (.value (.pointer (some ⟨W.heap.size, 0, none⟩))) (W.alloc (.cells (w32A zw64) 152)) :=
  run_allocRow _ (.agg (w32A zw64)) (by kernel_rfl) W
@[go_sem ↓] theorem exec_alloc_b64 (ρ : Operand → Value) (dst : Option Tmp) (ty : TypeId) (pos : String) (after : Array Edge) (guard : Option (Nat × Bool)) :
    execOp ρ ⟨dst, .alloc 154, ty, pos, after, guard⟩ = allocRow 154 := rfl
@[go_sem] theorem run_alloc_b64 (W : World) : (allocRow 154).run Tryz.prog W = .ok (.value (.pointer (some ⟨W.heap.size, 0, none⟩))) (W.alloc (.cells (b8A zb64) 154)) :=
  run_allocRow _ (.agg (b8A zb64)) (by kernel_rfl) W
@[go_sem ↓] theorem exec_alloc_dig (ρ : Operand → Value) (dst : Option Tmp) (ty : TypeId) (pos : String) (after : Array Edge) (guard : Option (Nat × Bool)) :
    execOp ρ ⟨dst, .alloc 23, ty, pos, after, guard⟩ = allocRow 23 := rfl
@[go_sem] theorem run_alloc_dig (W : World) : (allocRow 23).run Tryz.prog W = .ok (.value (.pointer (some ⟨W.heap.size, 0, none⟩))) (W.alloc (.cells (dA dig0) 23)) :=
  run_allocRow _ (.agg (dA dig0)) (by kernel_rfl) W
def fillV {α : Type} (f : α → Value) (z : Value) (L : List α) (n k : Nat) : List Value := (L.take k).map f ++ List.replicate (n - k) z
theorem fillV_set {α : Type} (f : α → Value) (z : Value) {L : List α} {n k : Nat} (hk : k < n) (hl : k < L.length) : (fillV f z L n k).set k (f L[k]) = fillV f z L n (k + 1) := by
  unfold fillV; have h1 : ((L.take k).map f).length = k := by simp; omega
  rw [List.set_append_right _ _ (by omega), h1, Nat.sub_self, show n - k = (n - (k + 1)) + 1 by omega, List.replicate_succ, List.set_cons_zero, List.take_succ_eq_append_getElem hl, List.map_append]; simp
theorem fillV_zero {α : Type} (f : α → Value) (z : Value) {L : List α} {n k : Nat} (hk : k < n) (hl : k < L.length) : (fillV f z L n k)[k]? = some z := by
  unfold fillV; have h1 : ((L.take k).map f).length = k := by simp; omega
  rw [List.getElem?_append_right (by omega), h1, Nat.sub_self, List.getElem?_replicate, if_pos (by omega)]
theorem fillV_all {α : Type} (f : α → Value) (z : Value) {L : List α} {n : Nat} (hl : L.length = n) : fillV f z L n n = L.map f := by
  unfold fillV; rw [Nat.sub_self, ← hl, List.take_length]; simp
def startM : List Int := (primesTo 18).map fun p => rootW p 2
def rootsM : List Int := (primesTo 310).map fun p => rootW p 3
set_option maxHeartbeats 1000000 in
theorem sha_start (w : World) : Calls Tryz.prog 89 #[] w fun e w' => e = .returned (.agg (w32A startM)) ∧ Kept w w' := by
  have hP := sha_primes 8 18 (by omega) primes_8.1 (fun k hk => by
    have h1 := primes_le (j := k) (k := 17) (by omega); have h2 := primes_8.2; omega)
  have h5 : ∀ p ∈ primesTo 18, p < 65536 := fun p hp => by have := primes_pos 18 p hp; omega
  have hlen := primes_8.1; rw [show startM = (primesTo 18).map fun p => rootW p 2 from rfl]; generalize primesTo 18 = L at *; have H5 := Lib.hid h5; have HL := Lib.hid hlen; clear h5 hlen; have hb0 : Blk (w.alloc (.cells (w32A zw8) 153)) w.heap.size 153 (fillV (fun p => .int .u32 (rootW p 2)) (.int .u32 0) L 8 0) := by
    have := Blk.new w 153 (fillV (fun p => .int .u32 (rootW p 2)) (.int .u32 0) L 8 0)
    rwa [show (fillV (fun p => .int .u32 (rootW p 2)) (.int .u32 0) L 8 0).toArray = w32A zw8 by simp [fillV, w32A, zw8]] at this
  have hk0 : Kept w (w.alloc (.cells (w32A zw8) 153)) := (Upd.refl _ w).alloc _; have HZ := Lib.hid hb0.lt
  go_enter Tryz.func89, Tryz.ntmps89
  go_wp2_with fail; generalize w.alloc (.cells (w32A zw8) 153) = W0 at *; refine (hP _).mono ?_; rintro e w1 ⟨v, rfl, ho, hu⟩; have hb1 := hb0.kept hu; have hk1 : Kept w w1 := hk0.then hu fun _ _ h => h; obtain ⟨A, c, rfl⟩ := ho.form; have HK := Lib.hid (And.intro hk1 (And.intro hb1 ho)); clear hb0 hk0 hP hu hk1 hb1 ho; rw [HL.out]; go_wp2_with fail
  go_loopw [5] (fun i wr => ∃ k : Nat, k ≤ 8 ∧ i = .int .i64 k ∧ Blk wr w.heap.size 153 (fillV (fun p => .int .u32 (rootW p 2)) (.int .u32 0) L 8 k) ∧ Kept w wr ∧ OwnU64 wr W0.heap.size (.slice A L.length c) L) (fun i _ => 8 - (intOf i).toNat)
  case atStart => exact ⟨0, Nat.zero_le _, rfl, HK.out.2.1, HK.out.1, HK.out.2.2⟩
  case round =>
    obtain ⟨k, hk, rfl, hb, hu, ho⟩ := hrel; have HB := Lib.hid (And.intro hb (And.intro hu ho)); rcases Nat.lt_or_ge k 8 with hlt | hge
    · have hkl : k < L.length := by have := HL.out; omega
      obtain ⟨g, c', e, hc⟩ := ho.get hkl; simp only [Value.slice.injEq, true_and] at e; obtain ⟨rfl, rfl⟩ := e; have hp5 := H5.out L[k] (by simp); have HS : Hid ((fillV (fun p => .int .u32 (rootW p 2)) (.int .u32 0) L 8 k).set k (.int .u32 (rootW (L[k]) 2)) = fillV (fun p => .int .u32 (rootW p 2)) (.int .u32 0) L 8 (k + 1)) := fillV_set _ _ hlt hkl; generalize L[k] = p at *; clear hb hu ho; go_wp2_with fail; refine (sha_root p 2 (by omega) hp5 _).mono ?_; rintro e w2 ⟨rfl, hu2⟩; have hb2 := HB.out.1.kept hu2; have c2 : w2.cell? ⟨w.heap.size, k, none⟩ = some (.int .u32 0) := hb2.cell (fillV_zero _ _ hlt (by have := HL.out; omega)); have z2 := hb2.thaw k; have HB2 := Lib.hid (And.intro hb2 hu2); clear hb2 hu2; go_wp2_with fail
      go_roundw
      case rel =>
        refine ⟨k + 1, by omega, by go_num, ?_, ?_, ?_⟩
        · have := HB2.out.1.set k (.int .u32 (rootW p 2))
          rwa [HS.out] at this
        · exact (HB.out.2.1.then HB2.out.2 fun _ _ h => h).setCell (p := ⟨w.heap.size, k, none⟩) _ (fun h => absurd h (Nat.lt_irrefl _))
        · refine OwnU64.upd (HB.out.2.2) (S := fun i => i = w.heap.size) ((HB2.out.2.mono fun _ _ h => h.elim).setCell (p := ⟨w.heap.size, k, none⟩) _ fun _ => rfl) fun i hi e => ?_
          have h1 := World.ownsRow.lt HB.out.2.2 i hi; have h2 := HZ.out; omega
      case measure => simp [intOf]; omega
    · obtain rfl : k = 8 := by omega
      have hs := hb.seg 0 8 (L.map fun p => .int .u32 (rootW p 2)) (by simp [HL.out]) (fun j hj => by rw [fillV_all _ _ HL.out, Nat.zero_add]); have hr : rowB wr w.heap.size 8 = true := by
        have h := hb; unfold Blk at h; exact rowB_of h (by rw [fillV_all _ _ HL.out]; simp [HL.out])
      have hw : wr.setRow w.heap.size (w32A (L.map fun p => rootW p 2)) = wr := by
        have h := hb; unfold Blk at h; rw [fillV_all _ _ HL.out] at h; have := setRow_self wr w.heap.size _ _ _ h
        rwa [show w32A (L.map fun p => rootW p 2) = (L.map fun p => Value.int .u32 (rootW p 2)).toArray by simp [w32A, Function.comp_def]]
      obtain ⟨s1, s2⟩ := hs
      replace s2 : segV wr ⟨w.heap.size, 0, none⟩ 8 = w32A (L.map fun p => rootW p 2) := by rw [s2]; simp [w32A, Function.comp_def]
      have hsz : (w32A (L.map fun p => rootW p 2)).size = 8 := by rw [w32A_size, List.length_map, HL.out]
      clear hb hu ho; generalize hR : L.map (fun p => rootW p 2) = R at *; have HR := Lib.hid hR; clear hR; have HF : Hid (Kept w wr) := HB.out.2.1; go_wp2; refine bodyPost_ret (v := .agg (w32A R)) ?_ rfl ⟨by rw [HR.out], HF.out⟩; rw [results_seg (P := Tryz.prog) (fn := Tryz.f89) rfl _ _ ⟨w.heap.size, 0, none⟩ 8 _ rfl Tryz.underlying153 rfl sizeOf153 s1, s2]
set_option maxHeartbeats 1000000 in
theorem sha_roots (w : World) : Calls Tryz.prog 88 #[] w fun e w' => e = .returned (.agg (w32A rootsM)) ∧ Kept w w' := by
  have hP := sha_primes 64 310 (by omega) primes_64.1 (fun k hk => by
    have h1 := primes_le (j := k) (k := 309) (by omega); have h2 := primes_64.2; omega)
  have h5 : ∀ p ∈ primesTo 310, p < 65536 := fun p hp => by have := primes_pos 310 p hp; omega
  have hlen := primes_64.1; rw [show rootsM = (primesTo 310).map fun p => rootW p 3 from rfl]; generalize primesTo 310 = L at *; have H5 := Lib.hid h5; have HL := Lib.hid hlen; clear h5 hlen; have hb0 : Blk (w.alloc (.cells (w32A zw64) 152)) w.heap.size 152 (fillV (fun p => .int .u32 (rootW p 3)) (.int .u32 0) L 64 0) := by
    have := Blk.new w 152 (fillV (fun p => .int .u32 (rootW p 3)) (.int .u32 0) L 64 0)
    rwa [show (fillV (fun p => .int .u32 (rootW p 3)) (.int .u32 0) L 64 0).toArray = w32A zw64 by simp [fillV, w32A, zw64]] at this
  have hk0 : Kept w (w.alloc (.cells (w32A zw64) 152)) := (Upd.refl _ w).alloc _; have HZ := Lib.hid hb0.lt
  go_enter Tryz.func88, Tryz.ntmps88
  go_wp2_with fail; generalize w.alloc (.cells (w32A zw64) 152) = W0 at *; refine (hP _).mono ?_; rintro e w1 ⟨v, rfl, ho, hu⟩; have hb1 := hb0.kept hu; have hk1 : Kept w w1 := hk0.then hu fun _ _ h => h; obtain ⟨A, c, rfl⟩ := ho.form; have HK := Lib.hid (And.intro hk1 (And.intro hb1 ho)); clear hb0 hk0 hP hu hk1 hb1 ho; rw [HL.out]; go_wp2_with fail
  go_loopw [5] (fun i wr => ∃ k : Nat, k ≤ 64 ∧ i = .int .i64 k ∧ Blk wr w.heap.size 152 (fillV (fun p => .int .u32 (rootW p 3)) (.int .u32 0) L 64 k) ∧ Kept w wr ∧ OwnU64 wr W0.heap.size (.slice A L.length c) L) (fun i _ => 64 - (intOf i).toNat)
  case atStart => exact ⟨0, Nat.zero_le _, rfl, HK.out.2.1, HK.out.1, HK.out.2.2⟩
  case round =>
    obtain ⟨k, hk, rfl, hb, hu, ho⟩ := hrel; have HB := Lib.hid (And.intro hb (And.intro hu ho)); rcases Nat.lt_or_ge k 64 with hlt | hge
    · have hkl : k < L.length := by have := HL.out; omega
      obtain ⟨g, c', e, hc⟩ := ho.get hkl; simp only [Value.slice.injEq, true_and] at e; obtain ⟨rfl, rfl⟩ := e; have hp5 := H5.out L[k] (by simp); have HS : Hid ((fillV (fun p => .int .u32 (rootW p 3)) (.int .u32 0) L 64 k).set k (.int .u32 (rootW (L[k]) 3)) = fillV (fun p => .int .u32 (rootW p 3)) (.int .u32 0) L 64 (k + 1)) := fillV_set _ _ hlt hkl; generalize L[k] = p at *; clear hb hu ho; go_wp2_with fail; refine (sha_root p 3 (by omega) hp5 _).mono ?_; rintro e w2 ⟨rfl, hu2⟩; have hb2 := HB.out.1.kept hu2; have c2 : w2.cell? ⟨w.heap.size, k, none⟩ = some (.int .u32 0) := hb2.cell (fillV_zero _ _ hlt (by have := HL.out; omega)); have z2 := hb2.thaw k; have HB2 := Lib.hid (And.intro hb2 hu2); clear hb2 hu2; go_wp2_with fail
      go_roundw
      case rel =>
        refine ⟨k + 1, by omega, by go_num, ?_, ?_, ?_⟩
        · have := HB2.out.1.set k (.int .u32 (rootW p 3))
          rwa [HS.out] at this
        · exact (HB.out.2.1.then HB2.out.2 fun _ _ h => h).setCell (p := ⟨w.heap.size, k, none⟩) _ (fun h => absurd h (Nat.lt_irrefl _))
        · refine OwnU64.upd (HB.out.2.2) (S := fun i => i = w.heap.size) ((HB2.out.2.mono fun _ _ h => h.elim).setCell (p := ⟨w.heap.size, k, none⟩) _ fun _ => rfl) fun i hi e => ?_
          have h1 := World.ownsRow.lt HB.out.2.2 i hi; have h2 := HZ.out; omega
      case measure => simp [intOf]; omega
    · obtain rfl : k = 64 := by omega
      have hs := hb.seg 0 64 (L.map fun p => .int .u32 (rootW p 3)) (by simp [HL.out]) (fun j hj => by rw [fillV_all _ _ HL.out, Nat.zero_add]); have hr : rowB wr w.heap.size 64 = true := by
        have h := hb; unfold Blk at h; exact rowB_of h (by rw [fillV_all _ _ HL.out]; simp [HL.out])
      have hw : wr.setRow w.heap.size (w32A (L.map fun p => rootW p 3)) = wr := by
        have h := hb; unfold Blk at h; rw [fillV_all _ _ HL.out] at h; have := setRow_self wr w.heap.size _ _ _ h
        rwa [show w32A (L.map fun p => rootW p 3) = (L.map fun p => Value.int .u32 (rootW p 3)).toArray by simp [w32A, Function.comp_def]]
      obtain ⟨s1, s2⟩ := hs
      replace s2 : segV wr ⟨w.heap.size, 0, none⟩ 64 = w32A (L.map fun p => rootW p 3) := by rw [s2]; simp [w32A, Function.comp_def]
      have hsz : (w32A (L.map fun p => rootW p 3)).size = 64 := by rw [w32A_size, List.length_map, HL.out]
      clear hb hu ho; generalize hR : L.map (fun p => rootW p 3) = R at *; have HR := Lib.hid hR; clear hR; have HF : Hid (Kept w wr) := HB.out.2.1; go_wp2; refine bodyPost_ret (v := .agg (w32A R)) ?_ rfl ⟨by rw [HR.out], HF.out⟩; rw [results_seg (P := Tryz.prog) (fn := Tryz.f88) rfl _ _ ⟨w.heap.size, 0, none⟩ 64 _ rfl Tryz.underlying152 rfl sizeOf152 s1, s2]
theorem startM_length : startM.length = 8 := by rw [startM, List.length_map]; exact primes_8.1
theorem rootsM_length : rootsM.length = 64 := by rw [rootsM, List.length_map]; exact primes_64.1
attribute [irreducible] startM rootsM
end Go.Proofs.YtepjbijhkkjbfaaGreat
namespace Go.Proofs.YtepjbijhkkjbfaaGreat
open Go.RowKit
def beM (cs : Bytes) : Int := cs.foldl (fun x c => bits .or .u32 (x * 256 % 4294967296) ((c.toNat : Int) % 4294967296)) 0
def mixW (p x q y : Int) : Int :=
  (p + bits .xor .u32 (bits .xor .u32 (rorM x 7) (rorM x 18)) (x / 8) + q + bits .xor .u32 (bits .xor .u32 (rorM y 17) (rorM y 19)) (y / 1024)) % 4294967296
def nextW (blk : Bytes) (L : List Int) : Int :=
  if L.length < 16 then beM ((blk.drop (4 * L.length)).take 4) else mixW (L.getD (L.length - 16) 0) (L.getD (L.length - 15) 0) (L.getD (L.length - 7) 0) (L.getD (L.length - 2) 0)
def schedN (blk : Bytes) : Nat → List Int
  | 0 => []
  | t + 1 => schedN blk t ++ [nextW blk (schedN blk t)]
@[simp] theorem schedN_length (blk : Bytes) (t : Nat) : (schedN blk t).length = t := by
  induction t with
  | zero => rfl
  | succ t ih => simp [schedN, ih]
def notW (x : Int) : Int := bits .xor .u32 IntKind.u32.max x
structure St8 where
  a : Int
  b : Int
  c : Int
  d : Int
  e : Int
  f : Int
  g : Int
  h : Int
def St8.big (s : St8) (k w : Int) : Int :=
  ((((s.h + bits .xor .u32 (bits .xor .u32 (rorM s.e 6) (rorM s.e 11)) (rorM s.e 25)) % 4294967296 + bits .xor .u32 (bits .and .u32 s.e s.f) (bits .and .u32 (notW s.e) s.g)) % 4294967296 + k) % 4294967296 + w) % 4294967296
def St8.small (s : St8) : Int :=
  (bits .xor .u32 (bits .xor .u32 (rorM s.a 2) (rorM s.a 13)) (rorM s.a 22) + bits .xor .u32 (bits .xor .u32 (bits .and .u32 s.a s.b) (bits .and .u32 s.a s.c)) (bits .and .u32 s.b s.c)) % 4294967296
def St8.rnd (s : St8) (k w : Int) : St8 := ⟨(s.big k w + s.small) % 4294967296, s.a, s.b, s.c, (s.d + s.big k w) % 4294967296, s.e, s.f, s.g⟩
def St8.rounds (K W : List Int) : Nat → St8 → St8
  | 0, s => s
  | t + 1, s => (St8.rounds K W t s).rnd (K.getD t 0) (W.getD t 0)
def St8.list (s : St8) : List Int := [s.a, s.b, s.c, s.d, s.e, s.f, s.g, s.h]
def rowW (L : List Int) : List Value := L.map (Value.int .u32) ++ List.replicate (64 - L.length) (Value.int .u32 0)
theorem rowW_get {L : List Int} {k : Nat} (hk : k < L.length) : (rowW L)[k]? = some (.int .u32 L[k]) := by
  unfold rowW; rw [List.getElem?_append_left (by simpa using hk)]; simp [hk]
theorem rowW_zero {L : List Int} (h : L.length < 64) : rowW L = rowW (L ++ [0]) := by
  unfold rowW; rw [show 64 - L.length = (64 - (L ++ [0]).length) + 1 by simp; omega, List.replicate_succ]; simp
theorem rowW_set {L : List Int} (h : L.length < 64) (x y : Int) : (rowW (L ++ [x])).set L.length (.int .u32 y) = rowW (L ++ [y]) := by
  unfold rowW; rw [List.map_append, List.map_append, List.append_assoc, List.set_append_right _ _ (by simp)]; simp
theorem rowW_all {L : List Int} (h : L.length = 64) : rowW L = L.map (Value.int .u32) := by simp [rowW, h]
theorem b64_len : Tryz.prog.arrayLen 154 = 64 := by kernel_rfl
theorem b64_elem : Tryz.prog.elem 154 = 5 := by kernel_rfl
theorem u8_sizeOf (W : World) : (sizeOf 5).run Tryz.prog W = .ok 1 W := by
  have h : (Tryz.prog.info? 5).map (·.size) = some 1 := by kernel_rfl
  obtain ⟨i, hi, h2⟩ := Option.map_eq_some_iff.1 h; simp [sizeOf, typeInfo, hi, h2]
theorem slice_b64 (W : World) (g o l h : Nat) (L H : Int) (hL : L = l) (hH : H = h) (h1 : l ≤ h) (h2 : h ≤ 64) (h3 : l < 64) :
    (Instr.sliceAt 154 (.pointer (some ⟨g, o, none⟩)) (some (.int .i64 L)) (some (.int .i64 H)) none).run Tryz.prog W = .ok (.slice (some ⟨g, o + l, none⟩) (h - l) (64 - l)) W := by
  subst hL hH; have := run_sliceAt_array_lh (P := Tryz.prog) W 154 ⟨g, o, none⟩ (by rw [b64_len, b64_elem]; exact Tryz.underlying154) .i64 .i64 (l : Int) (h : Int) (by omega) (by omega) (by rw [b64_len]; omega); rw [this, b64_elem, u8_sizeOf, b64_len]; simp only [Result.andThen, slicedAt, Int.toNat_natCast, Nat.mul_one, add_none]; rw [if_neg (by omega)]
theorem slice_b64_l (W : World) (g o l : Nat) (L : Int) (hL : L = l) (h1 : l < 64) :
    (Instr.sliceAt 154 (.pointer (some ⟨g, o, none⟩)) (some (.int .i64 L)) none none).run Tryz.prog W = .ok (.slice (some ⟨g, o + l, none⟩) (64 - l) (64 - l)) W := by
  subst hL; have := run_sliceAt_array_l (P := Tryz.prog) W 154 ⟨g, o, none⟩ (by rw [b64_len, b64_elem]; exact Tryz.underlying154) .i64 (l : Int) (by omega) (by rw [b64_len]; omega); rw [this, b64_elem, u8_sizeOf, b64_len]; simp only [Result.andThen, slicedAt, Int.toNat_natCast, Nat.mul_one, add_none]; rw [if_neg (by omega)]
theorem slice_b64_all (W : World) (g o : Nat) :
    (Instr.sliceAt 154 (.pointer (some ⟨g, o, none⟩)) none none none).run Tryz.prog W = .ok (.slice (some ⟨g, o, none⟩) 64 64) W := by
  have := run_sliceAt_array_all (P := Tryz.prog) W 154 ⟨g, o, none⟩ (by rw [b64_len, b64_elem]; exact Tryz.underlying154); rw [this, b64_elem, u8_sizeOf, b64_len]; simp [Result.andThen, slicedAt, add_none]
@[go_sem ↓] theorem exec_build_w8 (ρ : Operand → Value) (dst : Option Tmp) (parts : Array (Nat × Operand)) (ty : TypeId) (pos : String) (after : Array Edge) (guard : Option (Nat × Bool)) :
    execOp ρ ⟨dst, .build 153 parts, ty, pos, after, guard⟩ = buildRow 153 (parts.map fun (i, x) => (i, ρ x)) := rfl
@[go_sem] theorem run_build_w8 (a b c d e f g h : Int) (W : World) :
    (buildRow 153 #[(0, .int .u32 a), (1, .int .u32 b), (2, .int .u32 c), (3, .int .u32 d), (4, .int .u32 e), (5, .int .u32 f), (6, .int .u32 g), (7, .int .u32 h)]).run Tryz.prog W = .ok (.value (.agg (w32A [a, b, c, d, e, f, g, h]))) W := by
  have H := run_build (P := Tryz.prog) W 153 #[(0, .int .u32 a), (1, .int .u32 b), (2, .int .u32 c), (3, .int .u32 d), (4, .int .u32 e), (5, .int .u32 f), (6, .int .u32 g), (7, .int .u32 h)] (w32A [a, b, c, d, e, f, g, h]) (by unfold w32A; kernel_rfl); simp [buildRow, H, Result.andThen]
theorem u32_sizeOf : (Tryz.prog.info? 119).map (·.size) = some 1 := by kernel_rfl
theorem run_index_w8 (L : List Int) (hL : L.length = 8) (i : Nat) (hi : i < 8) (W : World) : (indexRow 153 (.agg (w32A L)) (.int .i64 (i : Int))).run Tryz.prog W = .ok (.value (.int .u32 (L.getD i 0))) W :=
  run_indexRow 153 119 8 _ Tryz.underlying153 Tryz.underlying119 rfl u32_sizeOf W _ i _ hi (by simp [w32A, hL, hi])
def addM (st L : List Int) : List Int := List.zipWith (fun x y => (x + y) % 4294967296) st L
def addTo (st L : List Int) (k : Nat) : List Int := (addM st L).take k ++ st.drop k
theorem addM_length {st L : List Int} {n : Nat} (hs : st.length = n) (hl : L.length = n) : (addM st L).length = n := by simp [addM, hs, hl]
theorem addTo_get {st L : List Int} {n k : Nat} (hs : st.length = n) (hl : L.length = n) (hk : k < n) : (addTo st L k)[k]? = some (st.getD k 0) := by
  unfold addTo; have h1 : ((addM st L).take k).length = k := by rw [List.length_take, addM_length hs hl]; omega
  rw [List.getElem?_append_right (by omega), h1, Nat.sub_self, List.getElem?_drop]; simp [hs, hk]
theorem addTo_set {st L : List Int} {n k : Nat} (hs : st.length = n) (hl : L.length = n) (hk : k < n) : (addTo st L k).set k ((st.getD k 0 + L.getD k 0) % 4294967296) = addTo st L (k + 1) := by
  unfold addTo; have h1 : ((addM st L).take k).length = k := by rw [List.length_take, addM_length hs hl]; omega
  have hk1 : k < st.length := by omega
  have hk2 : k < L.length := by omega
  have hk3 : k < (addM st L).length := by rw [addM_length hs hl]; exact hk
  have hd : st.drop k = st[k] :: st.drop (k + 1) := List.drop_eq_getElem_cons hk1; rw [List.set_append_right _ _ (by omega), h1, Nat.sub_self, List.take_succ_eq_append_getElem hk3, List.append_assoc, hd, List.set_cons_zero]; simp [addM, hk1, hk2]
theorem addTo_all {st L : List Int} {n : Nat} (hs : st.length = n) (hl : L.length = n) : addTo st L n = addM st L := by
  unfold addTo; rw [List.take_of_length_le (by rw [addM_length hs hl]; omega), List.drop_of_length_le (by omega), List.append_nil]
theorem addTo_zero (st L : List Int) : addTo st L 0 = st := by simp [addTo]
def takeM (st : List Int) (blk : Bytes) (K : List Int) : List Int :=
  addM st (St8.rounds K (schedN blk 64) 64 ⟨st.getD 0 0, st.getD 1 0, st.getD 2 0, st.getD 3 0, st.getD 4 0, st.getD 5 0, st.getD 6 0, st.getD 7 0⟩).list
theorem takeM_eight (s0 s1 s2 s3 s4 s5 s6 s7 : Int) (blk : Bytes) (K : List Int) : takeM [s0, s1, s2, s3, s4, s5, s6, s7] blk K = addM [s0, s1, s2, s3, s4, s5, s6, s7] (St8.rounds K (schedN blk 64) 64 ⟨s0, s1, s2, s3, s4, s5, s6, s7⟩).list := by
  simp [takeM]
theorem rounds_zero (K W : List Int) (s : St8) : St8.rounds K W 0 s = s := rfl
theorem rounds_succ (K W : List Int) (t : Nat) (s : St8) : St8.rounds K W (t + 1) s = (St8.rounds K W t s).rnd (K.getD t 0) (W.getD t 0) := rfl
theorem schedN_zero (blk : Bytes) : schedN blk 0 = [] := rfl
theorem schedN_succ (blk : Bytes) (t : Nat) : schedN blk (t + 1) = schedN blk t ++ [nextW blk (schedN blk t)] := rfl
theorem takeM_length {st : List Int} (h : st.length = 8) (blk : Bytes) (K : List Int) : (takeM st blk K).length = 8 := addM_length h rfl
attribute [irreducible] takeM St8.rounds schedN
theorem beM_snoc (cs : Bytes) (c : UInt8) : beM (cs ++ [c]) = bits .or .u32 (beM cs * 256 % 4294967296) ((c.toNat : Int) % 4294967296) := by simp [beM]
theorem byte_at {W : World} {g o : Nat} {R : Bytes} (h : W.rangeAt g o (encB R)) {k : Nat} (hk : k < R.length) : W.cell? ⟨g, o + k, none⟩ = some (.int .u8 (R[k].toNat : Int)) :=
  h k _ (by simp [encB, hk])
theorem word_at {W : World} {g o : Nat} {L : List Int} (h : W.rangeAt g o (L.map (Value.int .u32))) {k : Nat} (hk : k < L.length) : W.cell? ⟨g, o + k, none⟩ = some (.int .u32 L[k]) :=
  h k _ (by simp [hk])
theorem range_kept {W W' : World} {g o : Nat} {cs : List Value} (h : W.rangeAt g o cs) (hu : Kept W W') : W'.rangeAt g o cs := fun j v hv => hu.cell (h j v hv) id
end Go.Proofs.YtepjbijhkkjbfaaGreat
namespace Go.Proofs.YtepjbijhkkjbfaaGreat
open Go.RowKit
structure TakeMem (w W : World) (st L : List Int) : Prop where
  k : Kept w W
  s : Blk W w.heap.size 153 (st.map (Value.int .u32))
  r : Blk W (w.heap.size + 1) 153 (zw8.map (Value.int .u32))
  l : Blk W (w.heap.size + 1 + 1) 152 (rowW L)
section
variable {w W W' : World} {st L : List Int} {x : Int}
theorem TakeMem.new (w : World) (st : List Int) : TakeMem w (((w.alloc (.cells (w32A st) 153)).alloc (.cells (w32A zw8) 153)).alloc (.cells (w32A zw64) 152)) st [] := by
  refine ⟨(((Upd.refl _ w).alloc _).alloc _).alloc _, ?_, ?_, ?_⟩
  · exact ((Blk.new w _ _).alloc _).alloc _
  · have := (Blk.new (w.alloc (.cells (w32A st) 153)) 153 (zw8.map (Value.int .u32))).alloc (.cells (w32A zw64) 152)
    rwa [World.size_alloc] at this
  · have := Blk.new ((w.alloc (.cells (w32A st) 153)).alloc (.cells (w32A zw8) 153)) 152 (zw64.map (Value.int .u32))
    rw [World.size_alloc, World.size_alloc] at this
    rwa [show rowW [] = zw64.map (Value.int .u32) by simp [rowW, zw64]]
theorem TakeMem.drew (h : TakeMem w W st L) : TakeMem w W.drew st L := ⟨h.k.drew, h.s, h.r, h.l⟩
theorem TakeMem.set (h : TakeMem w W st (L ++ [x])) (hl : L.length < 64) (y : Int) : TakeMem w (W.setCell ⟨w.heap.size + 1 + 1, L.length, none⟩ (.int .u32 y)) st (L ++ [y]) := by
  refine ⟨h.k.setCell (p := ⟨w.heap.size + 1 + 1, L.length, none⟩) _ fun hlt => absurd (show w.heap.size + 1 + 1 < w.heap.size from hlt) (by omega), h.s.far _ _ (fun e => by have : w.heap.size = w.heap.size + 1 + 1 := e; omega), h.r.far _ _ (fun e => by have : w.heap.size + 1 = w.heap.size + 1 + 1 := e; omega), ?_⟩; have := h.l.set L.length (.int .u32 y)
  rwa [rowW_set hl] at this
theorem TakeMem.zero (h : TakeMem w W st L) (hl : L.length < 64) : TakeMem w W st (L ++ [0]) := ⟨h.k, h.s, h.r, by rw [← rowW_zero hl]; exact h.l⟩
theorem TakeMem.last (h : TakeMem w W st (L ++ [x])) : W.cell? ⟨w.heap.size + 1 + 1, L.length, none⟩ = some (.int .u32 x) := by
  refine h.l.cell ?_; rw [rowW_get (by simp)]; simp
theorem TakeMem.get (h : TakeMem w W st L) {k : Nat} (hk : k < L.length) : W.cell? ⟨w.heap.size + 1 + 1, k, none⟩ = some (.int .u32 L[k]) := h.l.cell (rowW_get hk)
theorem TakeMem.word (h : TakeMem w W st L) {k : Nat} (hk : k < L.length) : W.cell? ⟨w.heap.size + 1 + 1, k, none⟩ = some (.int .u32 (L.getD k 0)) := by
  rw [h.get hk]; simp [hk]
end
theorem eight {st : List Int} (h : st.length = 8) : ∃ s0 s1 s2 s3 s4 s5 s6 s7, st = [s0, s1, s2, s3, s4, s5, s6, s7] := by
  match st, h with
  | [s0, s1, s2, s3, s4, s5, s6, s7], _ => exact ⟨s0, s1, s2, s3, s4, s5, s6, s7, rfl⟩
set_option maxHeartbeats 4000000 in
set_option maxRecDepth 20000 in
theorem sha_take {w : World} {st K : List Int} {blk : Bytes} {gb ob gk ok : Nat} (hs : st.length = 8) (hb : blk.length = 64) (hK : K.length = 64) (hcb : w.rangeAt gb ob (encB blk)) (hck : w.rangeAt gk ok (K.map (Value.int .u32))) :
    Calls Tryz.prog 79 #[.agg (w32A st), .pointer (some ⟨gb, ob, none⟩), .pointer (some ⟨gk, ok, none⟩)] w fun e w' => e = .returned (.agg (w32A (takeM st blk K))) ∧ Kept w w' := by
  obtain ⟨s0, s1, s2, s3, s4, s5, s6, s7, rfl⟩ := eight hs; have HM := Lib.hid (TakeMem.new w [s0, s1, s2, s3, s4, s5, s6, s7]); have HC := Lib.hid (And.intro hs (And.intro hb (And.intro hK (And.intro hcb hck)))); clear hs hb hK hcb hck
  go_enter Tryz.func79, Tryz.ntmps79
  go_wp2_with fail; generalize ((w.alloc (.cells (w32A [s0, s1, s2, s3, s4, s5, s6, s7]) 153)).alloc (.cells (w32A zw8) 153)).alloc (.cells (w32A zw64) 152) = W3 at *
  go_loopw [26] (fun i wr => ∃ t : Nat, t ≤ 64 ∧ i = .int .i64 t ∧ TakeMem w wr [s0, s1, s2, s3, s4, s5, s6, s7] (schedN blk t)) (fun i _ => 64 - (intOf i).toNat)
  case atStart => exact ⟨0, Nat.zero_le _, rfl, by rw [schedN_zero]; exact HM.out⟩
  case round =>
    obtain ⟨t, ht, rfl, hm⟩ := hrel; have HT := Lib.hid hm; clear hm
    by_cases h64 : t < 64
    · by_cases h16 : t < 16
      · have HL : Hid ((schedN blk t).length = t) := schedN_length blk t
        have HN : Hid (schedN blk (t + 1) = schedN blk t ++ [beM ((blk.drop (4 * t)).take 4)]) := by
          show _ = _; rw [schedN_succ]; simp [nextW, h16]
        have hm0 := HT.out.zero (by rw [HL.out]; exact h64); generalize schedN blk t = L at *; have HZ := Lib.hid hm0; clear hm0; have hsl : ∀ W : World, (Instr.sliceAt 154 (.pointer (some ⟨gb, ob, none⟩)) (some (.int .i64 (4 * (t : Int)))) (some (.int .i64 (4 * (t : Int) + 4))) none).run Tryz.prog W = .ok (.slice (some ⟨gb, ob + 4 * t, none⟩) 4 (64 - 4 * t)) W := fun W => by
          have := slice_b64 W gb ob (4 * t) (4 * t + 4) (4 * (t : Int)) (4 * (t : Int) + 4) (by omega) (by omega) (by omega) (by omega) (by omega)
          rwa [show 4 * t + 4 - 4 * t = 4 by omega] at this
        go_wp2_with fail
        go_loopw [40] (fun i wr2 => ∃ j : Nat, j ≤ 4 ∧ i = .int .i64 j ∧ TakeMem w wr2 [s0, s1, s2, s3, s4, s5, s6, s7] (L ++ [beM ((blk.drop (4 * t)).take j)])) (fun i _ => 4 - (intOf i).toNat)
        case atStart => exact ⟨0, Nat.zero_le _, rfl, HZ.out⟩
        case round =>
          obtain ⟨j, hj, rfl, hm⟩ := hrel
          by_cases hj4 : j < 4
          · have hb := HC.out.2.1
            have hcb := HC.out.2.2.2.1; have hkb : 4 * t + j < blk.length := by omega
            have hc : wr.cell? ⟨gb, ob + 4 * t + j, none⟩ = some (.int .u8 (blk[4 * t + j].toNat : Int)) := by
              have := byte_at (range_kept hcb hm.k) hkb
              rwa [← Nat.add_assoc] at this
            have hl := hm.last; have hz := hm.l.thaw L.length; have HS : Hid (beM ((blk.drop (4 * t)).take (j + 1)) = bits .or .u32 (beM ((blk.drop (4 * t)).take j) * 256 % 4294967296) ((blk[4 * t + j].toNat : Int) % 4294967296)) := by
              show _ = _; rw [← beM_snoc, List.take_succ_eq_append_getElem (by simp; omega)]; simp
            rw [HL.out] at hl hz; have HT2 := Lib.hid hm; clear hm; generalize beM ((blk.drop (4 * t)).take j) = x at *; generalize blk[4 * t + j] = c at *; clear hb hcb hkb; go_wp2_with fail
            go_roundw
            case rel =>
              refine ⟨j + 1, by omega, by go_num, ?_⟩; have := HT2.out.set (by rw [HL.out]; exact h64) (bits .or .u32 (x * 256 % 4294967296) ((c.toNat : Int) % 4294967296)); rw [HL.out] at this; rw [HS.out]; exact this
            case measure => simp [intOf]; omega
          · obtain rfl : j = 4 := by omega
            have HT2 := Lib.hid hm; clear hm; go_wp2_with fail
            go_roundw
            case rel => exact ⟨t + 1, by omega, by go_num, by rw [← HN.out] at HT2; exact HT2.out⟩
            case measure => simp [intOf]; omega
      · have HL : Hid ((schedN blk t).length = t) := schedN_length blk t
        have HN : Hid (schedN blk (t + 1) = schedN blk t ++ [mixW ((schedN blk t).getD (t - 16) 0) ((schedN blk t).getD (t - 15) 0) ((schedN blk t).getD (t - 7) 0) ((schedN blk t).getD (t - 2) 0)]) := by
          show _ = _; rw [schedN_succ]; simp [nextW, h16]
        have c15 : ∀ W, TakeMem w W [s0, s1, s2, s3, s4, s5, s6, s7] (schedN blk t) → W.cell? ⟨w.heap.size + 1 + 1, t - 15, none⟩ = some (.int .u32 ((schedN blk t).getD (t - 15) 0)) := fun W hW => hW.word (k := t - 15) (by rw [HL.out]; omega); have c2 : ∀ W, TakeMem w W [s0, s1, s2, s3, s4, s5, s6, s7] (schedN blk t) → W.cell? ⟨w.heap.size + 1 + 1, t - 2, none⟩ = some (.int .u32 ((schedN blk t).getD (t - 2) 0)) := fun W hW => hW.word (k := t - 2) (by rw [HL.out]; omega); have c16 : ∀ W, TakeMem w W [s0, s1, s2, s3, s4, s5, s6, s7] (schedN blk t) → W.cell? ⟨w.heap.size + 1 + 1, t - 16, none⟩ = some (.int .u32 ((schedN blk t).getD (t - 16) 0)) := fun W hW => hW.word (k := t - 16) (by rw [HL.out]; omega); have c7 : ∀ W, TakeMem w W [s0, s1, s2, s3, s4, s5, s6, s7] (schedN blk t) → W.cell? ⟨w.heap.size + 1 + 1, t - 7, none⟩ = some (.int .u32 ((schedN blk t).getD (t - 7) 0)) := fun W hW => hW.word (k := t - 7) (by rw [HL.out]; omega); generalize schedN blk t = L at *; generalize L.getD (t - 15) 0 = x15 at *; generalize L.getD (t - 2) 0 = x2 at *; generalize L.getD (t - 16) 0 = x16 at *; generalize L.getD (t - 7) 0 = x7 at *; have w15 : IntKind.i64.wrap ((t : Int) - 15) = ((t - 15 : Nat) : Int) := by rw [IntKind.wrap_i64]; omega
        have w2 : IntKind.i64.wrap ((t : Int) - 2) = ((t - 2 : Nat) : Int) := by rw [IntKind.wrap_i64]; omega
        have w16 : IntKind.i64.wrap ((t : Int) - 16) = ((t - 16 : Nat) : Int) := by rw [IntKind.wrap_i64]; omega
        have w7 : IntKind.i64.wrap ((t : Int) - 7) = ((t - 7 : Nat) : Int) := by rw [IntKind.wrap_i64]; omega
        have l15 : ((t - 15 : Nat) : Int) < 64 := by omega
        have l2 : ((t - 2 : Nat) : Int) < 64 := by omega
        have l16 : ((t - 16 : Nat) : Int) < 64 := by omega
        have l7 : ((t - 7 : Nat) : Int) < 64 := by omega
        go_wp2_with fail; refine wp_region_mild_all (by kernel_rfl) (by kernel_rfl) (fun W => TakeMem w W [s0, s1, s2, s3, s4, s5, s6, s7] L) HT.out.drew ?_
        iterate 10 (refine wpMild_step (fun K hK => ?_); go_simp; apply Exists.intro; refine ⟨fun W hW => ?_, hK _ ?_⟩; (go_simp; first | done | exact rfl | exact ⟨rfl, hW⟩); clear hK K)
        refine wpMild_nil (fun wb hS => ?_); clear HT; go_wp2_with fail; refine wp_region_mild 28 (by kernel_rfl) (by kernel_rfl) (fun W => TakeMem w W [s0, s1, s2, s3, s4, s5, s6, s7] L) hS.drew ?_; simp only [List.take_succ_cons, List.take_zero, List.drop_succ_cons, List.drop_zero]
        iterate 6 (refine wpMild_step (fun K hK => ?_); go_simp; apply Exists.intro; refine ⟨fun W hW => ?_, hK _ ?_⟩; (go_simp; first | done | exact rfl | exact ⟨rfl, hW⟩); clear hK K)
        refine wpMild_step (fun K hK => ?_); go_simp; apply Exists.intro; refine ⟨fun W hW => ?_, hK _ ?_⟩
        · go_simp
          refine (sha_ror _ 7 (by simp) _).mono ?_; rintro e w' ⟨rfl, rfl⟩; exact ⟨rfl, hW⟩
        clear hK K
        iterate 1 (refine wpMild_step (fun K hK => ?_); go_simp; apply Exists.intro; refine ⟨fun W hW => ?_, hK _ ?_⟩; (go_simp; first | done | exact rfl | exact ⟨rfl, hW⟩); clear hK K)
        refine wpMild_step (fun K hK => ?_); go_simp; apply Exists.intro; refine ⟨fun W hW => ?_, hK _ ?_⟩
        · go_simp
          refine (sha_ror _ 18 (by simp) _).mono ?_; rintro e w' ⟨rfl, rfl⟩; exact ⟨rfl, hW⟩
        clear hK K
        iterate 11 (refine wpMild_step (fun K hK => ?_); go_simp; apply Exists.intro; refine ⟨fun W hW => ?_, hK _ ?_⟩; (go_simp; first | done | exact rfl | exact ⟨rfl, hW⟩); clear hK K)
        refine wpMild_step (fun K hK => ?_); go_simp; apply Exists.intro; refine ⟨fun W hW => ?_, hK _ ?_⟩
        · go_simp
          refine (sha_ror _ 17 (by simp) _).mono ?_; rintro e w' ⟨rfl, rfl⟩; exact ⟨rfl, hW⟩
        clear hK K
        iterate 1 (refine wpMild_step (fun K hK => ?_); go_simp; apply Exists.intro; refine ⟨fun W hW => ?_, hK _ ?_⟩; (go_simp; first | done | exact rfl | exact ⟨rfl, hW⟩); clear hK K)
        refine wpMild_step (fun K hK => ?_); go_simp; apply Exists.intro; refine ⟨fun W hW => ?_, hK _ ?_⟩
        · go_simp
          refine (sha_ror _ 19 (by simp) _).mono ?_; rintro e w' ⟨rfl, rfl⟩; exact ⟨rfl, hW⟩
        clear hK K
        iterate 5 (refine wpMild_step (fun K hK => ?_); go_simp; apply Exists.intro; refine ⟨fun W hW => ?_, hK _ ?_⟩; (go_simp; first | done | exact rfl | exact ⟨rfl, hW⟩); clear hK K)
        refine wpMild_nil (fun wc hS => ?_); have hl := (hS.zero (by rw [HL.out]; exact h64)).last; have hz := hS.l.thaw L.length; rw [HL.out] at hl hz; have HT2 := Lib.hid (hS.zero (by rw [HL.out]; exact h64)); clear hS c15 c2 c16 c7 w15 w2 w16 w7 l15 l2 l16 l7; go_wp2_with fail
        go_roundw
        case rel =>
          refine ⟨t + 1, by omega, by go_num, ?_⟩; have := HT2.out.set (by rw [HL.out]; exact h64) (mixW x16 x15 x7 x2); rw [HL.out] at this; rw [HN.out]; exact this
        case measure => simp [intOf]; omega
    · obtain rfl : t = 64 := by omega
      have HL : Hid ((schedN blk 64).length = 64) := schedN_length blk 64; have q0 : ∀ W, TakeMem w W [s0, s1, s2, s3, s4, s5, s6, s7] (schedN blk 64) → W.cell? ⟨w.heap.size, 0, none⟩ = some (.int .u32 s0) := fun W hW => hW.s.cell rfl; have q1 : ∀ W, TakeMem w W [s0, s1, s2, s3, s4, s5, s6, s7] (schedN blk 64) → W.cell? ⟨w.heap.size, 1, none⟩ = some (.int .u32 s1) := fun W hW => hW.s.cell rfl; have q2 : ∀ W, TakeMem w W [s0, s1, s2, s3, s4, s5, s6, s7] (schedN blk 64) → W.cell? ⟨w.heap.size, 2, none⟩ = some (.int .u32 s2) := fun W hW => hW.s.cell rfl; have q3 : ∀ W, TakeMem w W [s0, s1, s2, s3, s4, s5, s6, s7] (schedN blk 64) → W.cell? ⟨w.heap.size, 3, none⟩ = some (.int .u32 s3) := fun W hW => hW.s.cell rfl; have q4 : ∀ W, TakeMem w W [s0, s1, s2, s3, s4, s5, s6, s7] (schedN blk 64) → W.cell? ⟨w.heap.size, 4, none⟩ = some (.int .u32 s4) := fun W hW => hW.s.cell rfl; have q5 : ∀ W, TakeMem w W [s0, s1, s2, s3, s4, s5, s6, s7] (schedN blk 64) → W.cell? ⟨w.heap.size, 5, none⟩ = some (.int .u32 s5) := fun W hW => hW.s.cell rfl; have q6 : ∀ W, TakeMem w W [s0, s1, s2, s3, s4, s5, s6, s7] (schedN blk 64) → W.cell? ⟨w.heap.size, 6, none⟩ = some (.int .u32 s6) := fun W hW => hW.s.cell rfl; have q7 : ∀ W, TakeMem w W [s0, s1, s2, s3, s4, s5, s6, s7] (schedN blk 64) → W.cell? ⟨w.heap.size, 7, none⟩ = some (.int .u32 s7) := fun W hW => hW.s.cell rfl; generalize hLL : schedN blk 64 = L at *; have HLL := Lib.hid hLL; clear hLL; go_wp2_with fail; refine wp_region_mild_all (by kernel_rfl) (by kernel_rfl) (fun W => TakeMem w W [s0, s1, s2, s3, s4, s5, s6, s7] L) HT.out.drew ?_
      iterate 24 (refine wpMild_step (fun K hK => ?_); go_simp; apply Exists.intro; refine ⟨fun W hW => ?_, hK _ ?_⟩; (go_simp; first | done | exact rfl | exact ⟨rfl, hW⟩); clear hK K)
      refine wpMild_nil (fun wb hS => ?_); clear HT q0 q1 q2 q3 q4 q5 q6 q7; have HT := Lib.hid hS; clear hS; go_wp2_with fail
      go_loopw [108, 13, 14, 15, 16, 17, 18, 19, 20] (fun i a b c d e f g h wr => ∃ (t : Nat) (s : St8), t ≤ 64 ∧ i = .int .i64 t ∧ a = .int .u32 s.a ∧ b = .int .u32 s.b ∧ c = .int .u32 s.c ∧ d = .int .u32 s.d ∧ e = .int .u32 s.e ∧ f = .int .u32 s.f ∧ g = .int .u32 s.g ∧ h = .int .u32 s.h ∧ s = St8.rounds K L t ⟨s0, s1, s2, s3, s4, s5, s6, s7⟩ ∧ TakeMem w wr [s0, s1, s2, s3, s4, s5, s6, s7] L) (fun i _ _ _ _ _ _ _ _ _ => 64 - (intOf i).toNat)
      case atStart => exact ⟨0, ⟨s0, s1, s2, s3, s4, s5, s6, s7⟩, Nat.zero_le _, rfl, rfl, rfl, rfl, rfl, rfl, rfl, rfl, rfl, (rounds_zero _ _ _).symm, HT.out⟩
      case round =>
        obtain ⟨t, s, ht, rfl, rfl, rfl, rfl, rfl, rfl, rfl, rfl, rfl, hs, hm⟩ := hrel
        by_cases h64 : t < 64
        · have HS : Hid (St8.rounds K L (t + 1) ⟨s0, s1, s2, s3, s4, s5, s6, s7⟩ = s.rnd (K.getD t 0) (L.getD t 0)) := by show _ = _; rw [rounds_succ, ← hs]
          have ck : ∀ W, TakeMem w W [s0, s1, s2, s3, s4, s5, s6, s7] L → W.cell? ⟨gk, ok + t, none⟩ = some (.int .u32 (K.getD t 0)) := fun W hW => by
            have := word_at (range_kept HC.out.2.2.2.2 hW.k) (k := t) (by rw [HC.out.2.2.1]; exact h64); rw [this]; simp [HC.out.2.2.1, h64]
          have cw : ∀ W, TakeMem w W [s0, s1, s2, s3, s4, s5, s6, s7] L → W.cell? ⟨w.heap.size + 1 + 1, t, none⟩ = some (.int .u32 (L.getD t 0)) := fun W hW => hW.word (by rw [HL.out]; exact h64); generalize K.getD t 0 = kt at *; generalize L.getD t 0 = wt at *; have HT := Lib.hid hm; clear hm hs; go_wp2_with fail; refine wp_region_mild 29 (by kernel_rfl) (by kernel_rfl) (fun W => TakeMem w W [s0, s1, s2, s3, s4, s5, s6, s7] L) HT.out.drew ?_; simp only [List.take_succ_cons, List.take_zero, List.drop_succ_cons, List.drop_zero]
          iterate 2 (refine wpMild_step (fun K hK => ?_); go_simp; apply Exists.intro; refine ⟨fun W hW => ?_, hK _ ?_⟩; (go_simp; first | done | exact rfl | exact ⟨rfl, hW⟩); clear hK K)
          refine wpMild_step (fun K hK => ?_); go_simp; apply Exists.intro; refine ⟨fun W hW => ?_, hK _ ?_⟩
          · go_simp
            refine (sha_ror _ 6 (by simp) _).mono ?_; rintro e w' ⟨rfl, rfl⟩; exact ⟨rfl, hW⟩
          clear hK K
          iterate 1 (refine wpMild_step (fun K hK => ?_); go_simp; apply Exists.intro; refine ⟨fun W hW => ?_, hK _ ?_⟩; (go_simp; first | done | exact rfl | exact ⟨rfl, hW⟩); clear hK K)
          refine wpMild_step (fun K hK => ?_); go_simp; apply Exists.intro; refine ⟨fun W hW => ?_, hK _ ?_⟩
          · go_simp
            refine (sha_ror _ 11 (by simp) _).mono ?_; rintro e w' ⟨rfl, rfl⟩; exact ⟨rfl, hW⟩
          clear hK K
          iterate 2 (refine wpMild_step (fun K hK => ?_); go_simp; apply Exists.intro; refine ⟨fun W hW => ?_, hK _ ?_⟩; (go_simp; first | done | exact rfl | exact ⟨rfl, hW⟩); clear hK K)
          refine wpMild_step (fun K hK => ?_); go_simp; apply Exists.intro; refine ⟨fun W hW => ?_, hK _ ?_⟩
          · go_simp
            refine (sha_ror _ 25 (by simp) _).mono ?_; rintro e w' ⟨rfl, rfl⟩; exact ⟨rfl, hW⟩
          clear hK K
          iterate 21 (refine wpMild_step (fun K hK => ?_); go_simp; apply Exists.intro; refine ⟨fun W hW => ?_, hK _ ?_⟩; (go_simp; first | done | exact rfl | exact ⟨rfl, hW⟩); clear hK K)
          refine wpMild_nil (fun wc hS => ?_); clear ck cw HT; have HT := Lib.hid hS; clear hS; go_wp2_with fail; refine (sha_ror _ 2 (by simp) _).mono ?_; rintro e w' ⟨rfl, rfl⟩; go_wp2_with fail; refine (sha_ror _ 13 (by simp) _).mono ?_; rintro e w' ⟨rfl, rfl⟩; go_wp2_with fail; refine (sha_ror _ 22 (by simp) _).mono ?_; rintro e w' ⟨rfl, rfl⟩; go_wp2_with fail
          go_roundw
          case rel => exact ⟨t + 1, s.rnd kt wt, by omega, by go_num, rfl, rfl, rfl, rfl, rfl, rfl, rfl, rfl, by rw [HS.out], HT.out⟩
          case measure => simp [intOf]; omega
        · obtain rfl : t = 64 := by omega
          have HF : Hid (s = St8.rounds K L 64 ⟨s0, s1, s2, s3, s4, s5, s6, s7⟩) := hs; have HT := Lib.hid hm; clear hs hm; go_wp2_with fail
          go_loopw [182] (fun i wr => ∃ k : Nat, k ≤ 8 ∧ i = .int .i64 k ∧ Kept w wr ∧ Blk wr w.heap.size 153 ((addTo [s0, s1, s2, s3, s4, s5, s6, s7] s.list k).map (Value.int .u32)) ∧ Blk wr (w.heap.size + 1) 153 (zw8.map (Value.int .u32))) (fun i _ => 8 - (intOf i).toNat)
          case atStart => exact ⟨0, Nat.zero_le _, rfl, HT.out.k, by rw [addTo_zero]; exact HT.out.s, HT.out.r⟩
          case round =>
            obtain ⟨k, hk, rfl, hu, hb, hb1⟩ := hrel; rcases Nat.lt_or_ge k 8 with h8 | h8
            · have hix := fun W => run_index_w8 s.list rfl k h8 W
              have hc := hb.cell (k := k) (v := .int .u32 ([s0, s1, s2, s3, s4, s5, s6, s7].getD k 0)) (by rw [List.getElem?_map, addTo_get (n := 8) rfl rfl h8]; rfl); have hz := hb.thaw k; have HS : Hid ((addTo [s0, s1, s2, s3, s4, s5, s6, s7] s.list k).set k (([s0, s1, s2, s3, s4, s5, s6, s7].getD k 0 + [s.a, s.b, s.c, s.d, s.e, s.f, s.g, s.h].getD k 0) % 4294967296) = addTo [s0, s1, s2, s3, s4, s5, s6, s7] s.list (k + 1)) := addTo_set (n := 8) rfl rfl h8; have HB := Lib.hid (And.intro hu (And.intro hb hb1)); have h8' : (k : Int) < 8 := by omega
              clear hu hb hb1; rw [show St8.list s = [s.a, s.b, s.c, s.d, s.e, s.f, s.g, s.h] from rfl] at hix; generalize [s0, s1, s2, s3, s4, s5, s6, s7].getD k 0 = x at *; generalize [s.a, s.b, s.c, s.d, s.e, s.f, s.g, s.h].getD k 0 = y at *; go_wp2_with fail
              go_roundw
              case rel =>
                obtain ⟨hu, hb, hb1⟩ := HB.out; refine ⟨k + 1, by omega, by go_num, hu.setCell (p := ⟨w.heap.size, k, none⟩) _ (fun h => absurd h (Nat.lt_irrefl _)), ?_, hb1.far _ _ (fun e => by have : w.heap.size + 1 = w.heap.size := e; omega)⟩; have := hb.set k (.int .u32 ((x + y) % 4294967296))
                rwa [← List.map_set, HS.out] at this
              case measure => simp [intOf]; omega
            · obtain rfl : k = 8 := by omega
              rw [addTo_all (n := 8) rfl rfl] at hb; have HR : Hid (takeM [s0, s1, s2, s3, s4, s5, s6, s7] blk K = addM [s0, s1, s2, s3, s4, s5, s6, s7] s.list) := by
                show _ = _; rw [takeM_eight, HLL.out, ← HF.out]
              have hl : (addM [s0, s1, s2, s3, s4, s5, s6, s7] s.list).length = 8 := addM_length rfl rfl; generalize addM [s0, s1, s2, s3, s4, s5, s6, s7] s.list = R at *; have hsg := hb.seg 0 8 (R.map (Value.int .u32)) (by simpa using hl) (fun j _ => by rw [Nat.zero_add]); have hrb : rowB wr (w.heap.size + 1) 8 = true := rowB_of (show wr.heap[w.heap.size + 1]? = some (.cells (zw8.map (Value.int .u32)).toArray 153 (0, 0)) from hb1) (by simp [zw8]); have hb2 : Blk (wr.setRow (w.heap.size + 1) (w32A R)) (w.heap.size + 1) 153 (R.map (Value.int .u32)) := hb1.setRow _; have hs2 := hb2.seg 0 8 (R.map (Value.int .u32)) (by simpa using hl) (fun j _ => by rw [Nat.zero_add]); have HK : Hid (Kept w (wr.setRow (w.heap.size + 1) (w32A R))) := Lib.hid (Upd.setRow hu _ _ (fun h => absurd h (by omega))); have hsz : (w32A R).size = 8 := by rw [w32A_size]; exact hl
              obtain ⟨r1, r2⟩ := hsg; obtain ⟨r3, r4⟩ := hs2
              change segV wr ⟨w.heap.size, 0, none⟩ 8 = w32A R at r2
              change segV (wr.setRow (w.heap.size + 1) (w32A R)) ⟨w.heap.size + 1, 0, none⟩ 8 = w32A R at r4
              have HG := Lib.hid (And.intro r3 r4); clear hb hb1 hu hb2 hl r3 r4; go_wp2; refine bodyPost_ret (v := .agg (w32A R)) ?_ rfl ⟨by rw [HR.out], HK.out⟩; rw [results_seg (P := Tryz.prog) (fn := Tryz.f79) rfl _ _ ⟨w.heap.size + 1, 0, none⟩ 8 _ rfl Tryz.underlying153 rfl sizeOf153 HG.out.1, HG.out.2]
end Go.Proofs.YtepjbijhkkjbfaaGreat
namespace Go.Proofs.YtepjbijhkkjbfaaGreat
open Go.RowKit
theorem mid_get {α : Type} (A B C : List α) (j : Nat) (h : j < B.length) : (A ++ (B ++ C))[A.length + j]? = B[j]? := by
  rw [List.getElem?_append_right (by omega), Nat.add_sub_cancel_left, List.getElem?_append_left h]
theorem mid_splice {α : Type} (A B B' C : List α) (h : B'.length = B.length) : splice (A ++ (B ++ C)) A.length B' = A ++ (B' ++ C) := by
  unfold splice; rw [List.take_left, h, show A.length + B.length = (A ++ B).length by simp, ← List.append_assoc A B C, List.drop_left]
def hashH (d m : Int) : List Value := [.bool true, .int .u32 d, .int .i32 m, .int .u32 0]
def wordV (L : List Int) : List Value := L.map (Value.int .u32)
@[simp] theorem wordV_length (L : List Int) : (wordV L).length = L.length := by simp [wordV]
def hashV (d m : Int) (k st : List Int) (blk : Bytes) (held all : Int) : List Value := hashH d m ++ (wordV k ++ (wordV st ++ (encB blk ++ [.int .i64 held, .int .i64 all])))
structure HashAt (W : World) (g : Nat) (d m : Int) (k st : List Int) (blk : Bytes) (held all : Int) : Prop where
  b : Blk W g 156 (hashV d m k st blk held all)
  lk : k.length = 64
  ls : st.length = 8
  lb : blk.length = 64
section
variable {W W' : World} {g : Nat} {d m : Int} {k st : List Int} {blk : Bytes} {held all : Int} {S : Nat → Prop}
theorem HashAt.upd (h : HashAt W g d m k st blk held all) (hu : Upd S W W') (hs : ¬ S g) : HashAt W' g d m k st blk held all := ⟨h.b.upd hu hs, h.lk, h.ls, h.lb⟩
theorem HashAt.kept (h : HashAt W g d m k st blk held all) (hu : Kept W W') : HashAt W' g d m k st blk held all := h.upd hu id
theorem HashAt.c0 (h : HashAt W g d m k st blk held all) : W.cell? ⟨g, 0, none⟩ = some (.bool true) := h.b.cell rfl
theorem HashAt.c1 (h : HashAt W g d m k st blk held all) : W.cell? ⟨g, 1, none⟩ = some (.int .u32 d) := h.b.cell rfl
theorem HashAt.c2 (h : HashAt W g d m k st blk held all) : W.cell? ⟨g, 2, none⟩ = some (.int .i32 m) := h.b.cell rfl
theorem HashAt.thaw (h : HashAt W g d m k st blk held all) (o : Nat) : W.frozen? ⟨g, o, none⟩ = false := h.b.thaw o
theorem HashAt.len (h : HashAt W g d m k st blk held all) : (hashV d m k st blk held all).length = 142 := by simp [hashV, hashH, h.lk, h.ls, h.lb, encB_length]
theorem HashAt.rk (h : HashAt W g d m k st blk held all) : W.rangeAt g 4 (wordV k) := h.b.range 4 fun j hj => mid_get (hashH d m) (wordV k) _ j hj
theorem hash_st (d m : Int) (k st : List Int) (blk : Bytes) (held all : Int) : hashV d m k st blk held all = (hashH d m ++ wordV k) ++ (wordV st ++ (encB blk ++ [.int .i64 held, .int .i64 all])) := by simp [hashV]
theorem hash_blk (d m : Int) (k st : List Int) (blk : Bytes) (held all : Int) : hashV d m k st blk held all = (hashH d m ++ wordV k ++ wordV st) ++ (encB blk ++ [.int .i64 held, .int .i64 all]) := by simp [hashV]
theorem hash_end (d m : Int) (k st : List Int) (blk : Bytes) (held all : Int) : hashV d m k st blk held all = (hashH d m ++ wordV k ++ wordV st ++ encB blk) ++ ([.int .i64 held, .int .i64 all] ++ []) := by simp [hashV]
theorem HashAt.rb (h : HashAt W g d m k st blk held all) : W.rangeAt g 76 (encB blk) := h.b.range 76 fun j hj => by
  have := mid_get (hashH d m ++ wordV k ++ wordV st) (encB blk) [.int .i64 held, .int .i64 all] j hj
  rwa [← hash_blk, show (hashH d m ++ wordV k ++ wordV st).length = 76 by simp [hashH, h.lk, h.ls]] at this
theorem HashAt.segS (h : HashAt W g d m k st blk held all) : segB W ⟨g, 68, none⟩ 8 = true ∧ segV W ⟨g, 68, none⟩ 8 = w32A st := by
  have := h.b.seg 68 8 (wordV st) (by rw [wordV_length, h.ls]) (fun j hj => by
    have := mid_get (hashH d m ++ wordV k) (wordV st) (encB blk ++ [.int .i64 held, .int .i64 all]) j (by rw [wordV_length, h.ls]; exact hj)
    rwa [← hash_st, show (hashH d m ++ wordV k).length = 68 by simp [hashH, h.lk]] at this)
  exact this
theorem HashAt.segB64 (h : HashAt W g d m k st blk held all) : segB W ⟨g, 76, none⟩ 64 = true ∧ segV W ⟨g, 76, none⟩ 64 = b8A blk := by
  have := h.b.seg 76 64 (encB blk) (by rw [encB_length, h.lb]) (fun j hj => by
    have := mid_get (hashH d m ++ wordV k ++ wordV st) (encB blk) [.int .i64 held, .int .i64 all] j (by rw [encB_length, h.lb]; exact hj)
    rwa [← hash_blk, show (hashH d m ++ wordV k ++ wordV st).length = 76 by simp [hashH, h.lk, h.ls]] at this)
  exact this
theorem HashAt.cend (h : HashAt W g d m k st blk held all) (j : Nat) (hj : j < 2) : W.cell? ⟨g, 140 + j, none⟩ = [Value.int .i64 held, .int .i64 all][j]? := by
  have := mid_get (hashH d m ++ wordV k ++ wordV st ++ encB blk) [.int .i64 held, .int .i64 all] [] j hj; rw [← hash_end, show (hashH d m ++ wordV k ++ wordV st ++ encB blk).length = 140 by simp [hashH, h.lk, h.ls, h.lb, encB_length]] at this; have h2 : [Value.int .i64 held, .int .i64 all][j]? = some ([Value.int .i64 held, .int .i64 all][j]'hj) := List.getElem?_eq_getElem hj; rw [h2] at this ⊢; exact h.b.cell this
theorem HashAt.cheld (h : HashAt W g d m k st blk held all) : W.cell? ⟨g, 140, none⟩ = some (.int .i64 held) := h.cend 0 (by omega)
theorem HashAt.call (h : HashAt W g d m k st blk held all) : W.cell? ⟨g, 141, none⟩ = some (.int .i64 all) := h.cend 1 (by omega)
theorem HashAt.setHeld (h : HashAt W g d m k st blk held all) (x : Int) : HashAt (W.setCell ⟨g, 140, none⟩ (.int .i64 x)) g d m k st blk x all := by
  refine ⟨?_, h.lk, h.ls, h.lb⟩; have := h.b.set 140 (.int .i64 x); rw [hash_end, List.set_append_right _ _ (by simp [hashH, h.lk, h.ls, h.lb, encB_length])] at this; rw [hash_end]; simpa [hashH, h.lk, h.ls, h.lb, encB_length] using this
theorem HashAt.setAll (h : HashAt W g d m k st blk held all) (x : Int) : HashAt (W.setCell ⟨g, 141, none⟩ (.int .i64 x)) g d m k st blk held x := by
  refine ⟨?_, h.lk, h.ls, h.lb⟩; have := h.b.set 141 (.int .i64 x); rw [hash_end, List.set_append_right _ _ (by simp [hashH, h.lk, h.ls, h.lb, encB_length])] at this; rw [hash_end]; simpa [hashH, h.lk, h.ls, h.lb, encB_length] using this
theorem HashAt.setD (h : HashAt W g d m k st blk held all) (x : Int) : HashAt (W.setCell ⟨g, 1, none⟩ (.int .u32 x)) g x m k st blk held all := ⟨h.b.set 1 (.int .u32 x), h.lk, h.ls, h.lb⟩
theorem HashAt.setM (h : HashAt W g d m k st blk held all) (x : Int) : HashAt (W.setCell ⟨g, 2, none⟩ (.int .i32 x)) g d x k st blk held all := ⟨h.b.set 2 (.int .i32 x), h.lk, h.ls, h.lb⟩
theorem HashAt.runK (h : HashAt W g d m k st blk held all) {k' : List Int} (hk : k'.length = 64) :
    ∃ W', (storeRow 152 (.pointer (some ⟨g, 4, none⟩)) (.agg (w32A k'))).run Tryz.prog W = .ok .skip W' ∧ HashAt W' g d m k' st blk held all ∧ Upd (fun i => i = g) W W' := by
  have hr := run_storeMid (P := Tryz.prog) h.b 152 64 4 sizeOf152 (w32A k') (by rw [w32A_size, hk]) (by rw [h.len]; omega) (w32A_one _); have he : splice (hashV d m k st blk held all) 4 (w32A k').toList = hashV d m k' st blk held all := by
    have := mid_splice (hashH d m) (wordV k) (wordV k') (wordV st ++ (encB blk ++ [.int .i64 held, .int .i64 all])) (by simp [h.lk, hk]); exact this
  rw [he] at hr; exact ⟨_, hr, ⟨h.b.setRow _, hk, h.ls, h.lb⟩, (Upd.refl _ _).setRow _ _ fun _ => rfl⟩
theorem HashAt.runS (h : HashAt W g d m k st blk held all) {st' : List Int} (hk : st'.length = 8) :
    ∃ W', (storeRow 153 (.pointer (some ⟨g, 68, none⟩)) (.agg (w32A st'))).run Tryz.prog W = .ok .skip W' ∧ HashAt W' g d m k st' blk held all ∧ Upd (fun i => i = g) W W' := by
  have hr := run_storeMid (P := Tryz.prog) h.b 153 8 68 sizeOf153 (w32A st') (by rw [w32A_size, hk]) (by rw [h.len]; omega) (w32A_one _); have he : splice (hashV d m k st blk held all) 68 (w32A st').toList = hashV d m k st' blk held all := by
    have := mid_splice (hashH d m ++ wordV k) (wordV st) (wordV st') (encB blk ++ [.int .i64 held, .int .i64 all]) (by simp [h.ls, hk]); rw [show (hashH d m ++ wordV k).length = 68 by simp [hashH, h.lk], ← hash_st, ← hash_st] at this; exact this
  rw [he] at hr; exact ⟨_, hr, ⟨h.b.setRow _, h.lk, hk, h.lb⟩, (Upd.refl _ _).setRow _ _ fun _ => rfl⟩
end
def hash0 : Array Value := (hashV 0 0 zw64 zw8 zb64 0 0).toArray
@[go_sem ↓] theorem exec_build_hash (ρ : Operand → Value) (dst : Option Tmp) (parts : Array (Nat × Operand)) (ty : TypeId) (pos : String) (after : Array Edge) (guard : Option (Nat × Bool)) :
    execOp ρ ⟨dst, .build 156 parts, ty, pos, after, guard⟩ = buildRow 156 (parts.map fun (i, x) => (i, ρ x)) := rfl
@[go_sem] theorem run_build_hash (W : World) : (buildRow 156 #[(0, .bool true)]).run Tryz.prog W = .ok (.value (.agg hash0)) W := by
  have H := run_build (P := Tryz.prog) W 156 #[(0, .bool true)] hash0 (by unfold hash0; kernel_rfl); simp [buildRow, H, Result.andThen]
theorem sha_New (w : World) : Calls Tryz.prog 70 #[] w fun e w' => e = .returned (.pointer (some ⟨w.heap.size, 0, none⟩)) ∧ HashAt w' w.heap.size 0 0 zw64 zw8 zb64 0 0 ∧ Kept w w' := by
  have h : HashAt (w.alloc (.cells hash0 156)) w.heap.size 0 0 zw64 zw8 zb64 0 0 := ⟨Blk.new w _ _, by simp [zw64], by simp [zw8], by simp [zb64]⟩; have hk : Kept w (w.alloc (.cells hash0 156)) := (Upd.refl _ w).alloc _; have HH := Lib.hid (And.intro h hk); clear h hk
  go_enter Tryz.func70, Tryz.ntmps70
  go_wp2
  go_ret
  exact ⟨rfl, HH.out.1, HH.out.2⟩
attribute [irreducible] hash0
end Go.Proofs.YtepjbijhkkjbfaaGreat
namespace Go.Proofs.YtepjbijhkkjbfaaGreat
open Go.RowKit
set_option maxHeartbeats 1000000 in
set_option maxRecDepth 20000 in
theorem hash_ready1 {w : World} {g : Nat} {d m : Int} {k st : List Int} {blk : Bytes} {held all : Int} (h : HashAt w g d m k st blk held all) {b o : Nat} (hp : w.cell? ⟨b, o, none⟩ = some (.pointer (some ⟨g, 0, none⟩))) (hb : b ≠ g) :
    Calls Tryz.prog 87 #[.pointer (some ⟨b, o, none⟩)] w fun e W => e = .returned (.tuple #[]) ∧ HashAt W g d m rootsM startM blk held all ∧ Upd (fun i => i = g) w W := by
  have f1 : ∀ W, Upd (fun i => i = g) w W → W.cell? ⟨b, o, none⟩ = some (.pointer (some ⟨g, 0, none⟩)) := fun W hW => hW.cell hp hb; have HH := Lib.hid h; clear h hp
  go_enter Tryz.func87, Tryz.ntmps87
  go_wp2_with fail; refine wp_region_ord [(0, true), (1, true), (2, false), (3, false), (4, false), (5, false), (6, false), (7, false), (8, false), (9, false)] (by kernel_rfl) (by kernel_rfl) (Upd (fun i => i = g) w) ((Upd.refl _ w).drew) ?_; simp only [ordOps, List.getD_cons_zero, List.getD_cons_succ]
  iterate 2 (refine wpOrd_held (fun K hK => ?_); go_simp; first | (apply Exists.intro; refine ⟨fun W hW => ?_, hK _ ?_⟩; (go_simp; first | done | exact rfl); clear hK K) | (refine hK _ ?_; clear hK K))
  clear f1; have h0 : Upd (fun i => i = g) w w.drew := (Upd.refl _ w).drew; have HD : Hid (HashAt w.drew g d m k st blk held all) := Lib.hid ⟨HH.out.b.drew, HH.out.lk, HH.out.ls, HH.out.lb⟩; generalize w.drew = wa at *; refine wpOrd_step (fun K hK => ?_) h0; go_simp; refine (sha_roots _).mono ?_; rintro e wb ⟨rfl, hu⟩
  replace HD := Lib.hid (HD.out.kept hu)
  replace h0 := h0.then hu fun _ _ h => h.elim
  clear hu; refine hK _ _ h0 ?_; clear hK K; refine wpOrd_step (fun K hK => ?_) h0; go_simp; refine (sha_start _).mono ?_; rintro e wc ⟨rfl, hu⟩
  replace HD := Lib.hid (HD.out.kept hu)
  replace h0 := h0.then hu fun _ _ h => h.elim
  clear hu; refine hK _ _ h0 ?_; clear hK K; obtain ⟨W1, r1, h2, u1⟩ := HD.out.runK rootsM_length; obtain ⟨W2, r2, h3, u2⟩ := h2.runS startM_length; have h1 := h0.trans u1; have h4 := h1.trans u2; have HF := Lib.hid (And.intro h3 h4); clear h2 h3 u1 u2
  iterate 2 (refine wpOrd_step (fun K hK => ?_) h0; go_simp; refine hK _ _ h0 ?_; clear hK K)
  refine wpOrd_step (fun K hK => ?_) h0; go_simp; refine hK _ _ h1 ?_; clear hK K
  iterate 2 (refine wpOrd_step (fun K hK => ?_) h1; go_simp; refine hK _ _ h1 ?_; clear hK K)
  refine wpOrd_step (fun K hK => ?_) h1; go_simp; refine hK _ _ h4 ?_; clear hK K; refine wpOrd_nil ?_; go_wp2
  go_end0
  exact ⟨rfl, HF.out.1, HF.out.2⟩
set_option maxHeartbeats 1000000 in
set_option maxRecDepth 20000 in
theorem hash_ready {w : World} {g : Nat} {k st : List Int} {blk : Bytes} {held all : Int} (h : HashAt w g 0 0 k st blk held all) :
    Calls Tryz.prog 78 #[.pointer (some ⟨g, 0, none⟩)] w fun e W => e = .returned (.tuple #[]) ∧ HashAt W g 1 0 rootsM startM blk held all ∧ Upd (fun i => i = g) w W := by
  have hlt : g < w.heap.size := h.b.lt; have h1 : HashAt (w.alloc (.cells #[.pointer (some ⟨g, 0, none⟩)] 144)) g 0 0 k st blk held all := h.kept ((Upd.refl _ w).alloc _); have hp : (w.alloc (.cells #[.pointer (some ⟨g, 0, none⟩)] 144)).cell? ⟨w.heap.size, 0, none⟩ = some (.pointer (some ⟨g, 0, none⟩)) := Blk.cell (Blk.new w 144 [.pointer (some ⟨g, 0, none⟩)]) rfl; have hu : Upd (fun i => i = g) w (w.alloc (.cells #[.pointer (some ⟨g, 0, none⟩)] 144)) := (Upd.refl _ w).alloc _; have HG := Lib.hid hlt; have HH := Lib.hid (And.intro h1 (And.intro hp hu)); clear h h1 hp hu hlt; have hmf : ∀ (fn : Fn) (first cap : Array Value) (w : World), (Instr.makeFunc fn first cap).run Tryz.prog w = .ok (.func fn first cap) w := fun _ _ _ _ => rfl
  go_enter Tryz.func78, Tryz.ntmps78
  go_wp2_with fail; obtain ⟨h1, hp, hu⟩ := HH.out; refine (do_hash (b := g) (off := 1) (pl := ⟨w.heap.size, 0, none⟩) (Q := fun W => HashAt W g 0 1 rootsM startM blk held all ∧ Upd (fun i => i = g) w W) h1.c1 h1.c2 (h1.thaw 2) ?_ ?_).mono ?_
  · have h2 := h1.setM 1
    have hu2 := hu.setCell (p := ⟨g, 2, none⟩) (.int .i32 1) fun _ => rfl; refine (hash_ready1 h2 (b := w.heap.size) (o := 0) ?_ (by have := HG.out; omega)).mono ?_
    · rw [World.cell?_setCell_other _ _ _ _ (fun e => by have := HG.out; have h3 : g = w.heap.size := congrArg Addr.block e; omega)]
      exact hp
    · rintro e W ⟨rfl, h3, hu3⟩
      exact ⟨rfl, h3, hu2.trans hu3⟩
  · rintro W ⟨h2, _⟩
    exact ⟨h2.c1, h2.c2, h2.thaw 1, h2.thaw 2⟩
  rintro e w2 ⟨rfl, W, ⟨h2, hu2⟩, rfl⟩; have h3 := ((show HashAt W.drew g 0 1 rootsM startM blk held all from ⟨h2.b.drew, h2.lk, h2.ls, h2.lb⟩).setD 1).setM 0; have hu3 := (hu2.drew.setCell (p := ⟨g, 1, none⟩) (.int .u32 1) fun _ => rfl).setCell (p := ⟨g, 2, none⟩) (.int .i32 0) fun _ => rfl; have HF := Lib.hid (And.intro h3 hu3); clear h1 hp hu h2 hu2 h3 hu3 HH
  change Hid (HashAt ((W.drew.setCell ⟨g, 1, none⟩ (.int .u32 1)).setCell ⟨g, 1 + 1, none⟩ (.int .i32 0)) g 1 0 rootsM startM blk held all ∧ Upd (fun i => i = g) w ((W.drew.setCell ⟨g, 1, none⟩ (.int .u32 1)).setCell ⟨g, 1 + 1, none⟩ (.int .i32 0))) at HF
  generalize (W.drew.setCell ⟨g, 1, none⟩ (.int .u32 1)).setCell ⟨g, 1 + 1, none⟩ (.int .i32 0) = w2 at *; go_wp2
  go_end0
  exact ⟨rfl, HF.out.1, HF.out.2⟩
set_option maxHeartbeats 1000000 in
set_option maxRecDepth 20000 in
theorem hash_again {w : World} {g : Nat} {k st : List Int} {blk : Bytes} {held all : Int} (h : HashAt w g 1 0 k st blk held all) :
    Calls Tryz.prog 78 #[.pointer (some ⟨g, 0, none⟩)] w fun e W => e = .returned (.tuple #[]) ∧ HashAt W g 1 0 k st blk held all ∧ Kept w W := by
  have h1 : HashAt (w.alloc (.cells #[.pointer (some ⟨g, 0, none⟩)] 144)) g 1 0 k st blk held all := h.kept ((Upd.refl _ w).alloc _); have hu : Kept w (w.alloc (.cells #[.pointer (some ⟨g, 0, none⟩)] 144)) := (Upd.refl _ w).alloc _; have HH := Lib.hid (And.intro h1 hu); clear h h1 hu; have hmf : ∀ (fn : Fn) (first cap : Array Value) (w : World), (Instr.makeFunc fn first cap).run Tryz.prog w = .ok (.func fn first cap) w := fun _ _ _ _ => rfl
  go_enter Tryz.func78, Tryz.ntmps78
  go_wp2_with fail; refine (do_done g 1 _ _ HH.out.1.c1).mono ?_; rintro e w2 ⟨rfl, rfl⟩; go_wp2
  go_end0
  exact ⟨rfl, HH.out.1, HH.out.2⟩
end Go.Proofs.YtepjbijhkkjbfaaGreat
namespace Go.Proofs.YtepjbijhkkjbfaaGreat
open Go.RowKit
def byteW (x : Int) : UInt8 := UInt8.ofNat (x % 256).toNat
theorem byteW_val (x : Int) : ((byteW x).toNat : Int) = x % 256 := by
  unfold byteW; have h1 : 0 ≤ x % 256 := Int.emod_nonneg _ (by omega); have h2 : x % 256 < 256 := Int.emod_lt_of_pos _ (by omega); simp only [UInt8.toNat_ofNat']; omega
def absorbN (K st : List Int) (l : Bytes) : Nat → List Int
  | 0 => st
  | i + 1 => takeM (absorbN K st l i) ((l.drop (64 * i)).take 64) K
theorem absorbN_length {K st : List Int} {l : Bytes} (h : st.length = 8) : ∀ i, (absorbN K st l i).length = 8
  | 0 => h
  | i + 1 => takeM_length (absorbN_length h i) _ _
theorem absorbN_same {K st : List Int} {l l' : Bytes} : ∀ (n : Nat), l.take (64 * n) = l'.take (64 * n) → absorbN K st l n = absorbN K st l' n
  | 0, _ => rfl
  | n + 1, h => by
    have h1 : l.take (64 * n) = l'.take (64 * n) := by
      have := congrArg (List.take (64 * n)) h
      rwa [List.take_take, List.take_take, Nat.min_eq_left (by omega)] at this
    have h2 : (l.drop (64 * n)).take 64 = (l'.drop (64 * n)).take 64 := by
      have := congrArg (List.drop (64 * n)) h
      rwa [List.drop_take, List.drop_take, show 64 * (n + 1) - 64 * n = 64 by omega] at this
    simp only [absorbN, absorbN_same n h1, h2]
def lenB (n : Nat) : Bytes := (List.range 8).map fun j => byteW ((8 * n : Nat) / 2 ^ (8 * (7 - j)))
@[simp] theorem lenB_length (n : Nat) : (lenB n).length = 8 := by simp [lenB]
def padM (R : Bytes) : Bytes := R ++ (128 :: (List.replicate ((119 - R.length % 64) % 64) 0 ++ lenB R.length))
def outL (st : List Int) : Bytes := (List.range 32).map fun i => byteW (st.getD (i / 4) 0 / 2 ^ (24 - 8 * (i % 4)))
def outM (st : List Int) : Dig := ⟨outL st, by simp [outL]⟩
def shaM (R : Bytes) : Dig := outM (absorbN rootsM startM (padM R) ((padM R).length / 64))
def tailB (T : Bytes) : Bytes := T ++ (128 :: List.replicate (63 - T.length) 0)
def withLen (b : Bytes) (n : Nat) : Bytes := b.take 56 ++ lenB n
theorem pad_short {R : Bytes} {q : Nat} {T : Bytes} (hT : T = R.drop (64 * q)) (hl : R.length = 64 * q + T.length) (h : T.length < 56) (K st : List Int) :
    absorbN K st (padM R) ((padM R).length / 64) = takeM (absorbN K st R q) (withLen (tailB T) R.length) K := by
  have hm : R.length % 64 = T.length := by omega
  have hz : (119 - R.length % 64) % 64 = 55 - T.length := by omega
  have hn : (padM R).length / 64 = q + 1 := by simp [padM, hz]; omega
  rw [hn, absorbN]
  congr 1
  · refine absorbN_same q ?_
    rw [padM, List.take_append_of_le_length (by omega)]
  · rw [padM, hz, List.drop_append_of_le_length (by omega), ← hT]
    have : T ++ 128 :: (List.replicate (55 - T.length) 0 ++ lenB R.length) = withLen (tailB T) R.length := by
      simp only [withLen, tailB]; rw [List.take_append, List.take_of_length_le (by omega), show 56 - T.length = (55 - T.length) + 1 by omega, List.take_succ_cons, List.take_replicate, Nat.min_eq_left (by omega)]; simp
    rw [this]; refine List.take_of_length_le ?_; simp [withLen, tailB]; omega
theorem pad_long {R : Bytes} {q : Nat} {T : Bytes} (hT : T = R.drop (64 * q)) (hl : R.length = 64 * q + T.length) (h : 56 ≤ T.length) (h64 : T.length < 64) (K st : List Int) :
    absorbN K st (padM R) ((padM R).length / 64) = takeM (takeM (absorbN K st R q) (tailB T) K) (withLen zb64 R.length) K := by
  have hm : R.length % 64 = T.length := by omega
  have hz : (119 - R.length % 64) % 64 = (63 - T.length) + 56 := by omega
  have hn : (padM R).length / 64 = q + 1 + 1 := by simp [padM, hz]; omega
  have hp : padM R = R ++ (128 :: List.replicate (63 - T.length) 0) ++ (List.replicate 56 0 ++ lenB R.length) := by
    rw [padM, hz, ← List.replicate_append_replicate]; simp
  have hlen : (R ++ (128 :: List.replicate (63 - T.length) 0)).length = 64 * (q + 1) := by simp; omega
  rw [hn, absorbN, absorbN]
  congr 1
  · congr 1
    · refine absorbN_same q ?_
      rw [padM, List.take_append_of_le_length (by omega)]
    · rw [hp, List.append_assoc, List.drop_append_of_le_length (by omega), ← hT]
      have : T ++ (128 :: List.replicate (63 - T.length) 0 ++ (List.replicate 56 0 ++ lenB R.length)) = tailB T ++ (List.replicate 56 0 ++ lenB R.length) := by simp [tailB]
      rw [this, List.take_append_of_le_length (by simp [tailB]; omega)]; refine List.take_of_length_le ?_; simp [tailB]; omega
  · rw [hp, ← hlen, List.drop_left]
    have : List.replicate 56 0 ++ lenB R.length = withLen zb64 R.length := by
      simp [withLen, zb64, List.take_replicate]
    rw [this]; refine List.take_of_length_le ?_; simp [withLen, zb64]
theorem absorbN_zero (K st : List Int) (l : Bytes) : absorbN K st l 0 = st := rfl
theorem absorbN_succ (K st : List Int) (l : Bytes) (i : Nat) : absorbN K st l (i + 1) = takeM (absorbN K st l i) ((l.drop (64 * i)).take 64) K := rfl
theorem shaM_def (R : Bytes) : shaM R = outM (absorbN rootsM startM (padM R) ((padM R).length / 64)) := rfl
theorem outM_val (st : List Int) : (outM st).1 = outL st := rfl
attribute [irreducible] shaM absorbN padM outM
end Go.Proofs.YtepjbijhkkjbfaaGreat
namespace Go.Proofs.YtepjbijhkkjbfaaGreat
open Go.RowKit
def Byt (W : World) (A : Option Addr) (R : Bytes) : Prop := R = [] ∨ ∃ b off, A = some ⟨b, off, none⟩ ∧ W.rangeAt b off (encB R)
theorem Byt.upd {W W' : World} {A : Option Addr} {R : Bytes} {S : Nat → Prop} (h : Byt W A R) (hu : Upd S W W') (hs : ∀ a, A = some a → ¬ S a.block) : Byt W' A R := by
  rcases h with rfl | ⟨b, off, rfl, h⟩
  · exact .inl rfl
  · exact .inr ⟨b, off, rfl, fun j v hv => hu.cell (h j v hv) (show ¬ S b from hs ⟨b, off, none⟩ rfl)⟩
theorem Byt.kept {W W' : World} {A : Option Addr} {R : Bytes} (h : Byt W A R) (hu : Kept W W') : Byt W' A R := h.upd hu fun _ _ => id
theorem encB_drop (R : Bytes) (n : Nat) : encB (R.drop n) = (encB R).drop n := by simp [encB]
theorem encB_take (R : Bytes) (n : Nat) : encB (R.take n) = (encB R).take n := by simp [encB]
theorem encB_append (R S : Bytes) : encB (R ++ S) = encB R ++ encB S := by simp [encB]
theorem encB_one (R : Bytes) : ∀ v ∈ encB R, v.oneCell' = true := fun v hv => by obtain ⟨x, _, rfl⟩ := List.mem_map.1 hv; rfl
theorem u8_size1 : (Tryz.prog.info? 5).map (·.size) = some 1 := by kernel_rfl
theorem bs_elem : Tryz.prog.elem 42 = 5 := by kernel_rfl
theorem slice_u8_l (W : World) (b o len cap l : Nat) (L : Int) (hL : L = l) (h1 : l ≤ len) :
    (Instr.sliceAt 42 (.slice (some ⟨b, o, none⟩) len cap) (some (.int .i64 L)) none none).run Tryz.prog W = .ok (.slice (some (if cap = l then ⟨b, o, none⟩ else ⟨b, o + l, none⟩)) (len - l) (cap - l)) W := by
  subst hL; have ht : Tryz.prog.underlying 42 = some (.slice (Tryz.prog.elem 42)) := by rw [bs_elem]; exact Tryz.underlying42
  have := run_slice_l (P := Tryz.prog) (w := W) 42 (some ⟨b, o, none⟩) len cap ht .i64 (l : Int) (by omega) (by omega); rw [run_sliceAt_slice (h := ht), this, bs_elem, u8_sizeOf]; simp only [Result.andThen, sliced, Int.toNat_natCast, Nat.mul_one, Option.map_some, add_none]
  split <;> rfl
theorem HashAt.copy {W : World} {g : Nat} {d m : Int} {k st : List Int} {blk : Bytes} {held all : Int} (h : HashAt W g d m k st blk held all) (cs : Bytes) (hc : cs.length ≤ 64) :
    HashAt (W.setRow g ((hashV d m k st blk held all).toArray.toList.take 76 ++ (encB cs ++ (hashV d m k st blk held all).toArray.toList.drop (76 + (encB cs).length))).toArray) g d m k st (cs ++ blk.drop cs.length) held all := by
  refine ⟨?_, h.lk, h.ls, by have := h.lb; simp; omega⟩; have he : (hashV d m k st blk held all).toArray.toList.take 76 ++ (encB cs ++ (hashV d m k st blk held all).toArray.toList.drop (76 + (encB cs).length)) = hashV d m k st (cs ++ blk.drop cs.length) held all := by
    have h76 : (hashH d m ++ wordV k ++ wordV st).length = 76 := by simp [hashH, h.lk, h.ls]
    have hcl : (encB cs).length = cs.length := encB_length cs; rw [hash_blk, hash_blk, encB_append, encB_drop, List.toList_toArray, hcl, ← h76, List.take_left, ← List.drop_drop, List.drop_left,
      List.drop_append_of_le_length (by rw [encB_length, h.lb]; exact hc)]
    simp
  rw [he]; exact h.b.setRow _
set_option maxHeartbeats 4000000 in
set_option maxRecDepth 20000 in
theorem hash_Write {w : World} {g : Nat} (h : HashAt w g 0 0 zw64 zw8 zb64 0 0) {A : Option Addr} {R : Bytes} (c : Nat) (hR : Byt w A R) (hA : R ≠ [] → ∀ a, A = some a → a.block ≠ g) (hl : R.length ≤ 140737488351232) (hcap : R.length ≤ c) :
    Calls Tryz.prog 71 #[.pointer (some ⟨g, 0, none⟩), .slice A R.length c] w fun e W => e = .returned (.int .i64 0) ∧ Upd (fun i => i = g) w W ∧
      ∃ q T blk, T = R.drop (64 * q) ∧ R.length = 64 * q + T.length ∧ T.length < 64 ∧ blk.take T.length = T ∧ HashAt W g 1 0 rootsM (absorbN rootsM startM R q) blk T.length R.length := by
  have hnot : ∀ (x : Bool) (w : World), (Op.unary .not (.bool x)).run Tryz.prog w = .ok (.bool (!x)) w := fun _ _ => rfl; have c0 := h.c0; have HH := Lib.hid (And.intro h (And.intro hR (And.intro hA hcap))); clear h hR hA hcap
  go_enter Tryz.func71, Tryz.ntmps71
  go_wp2_with fail; clear c0; refine (hash_ready HH.out.1).mono ?_; rintro e w1 ⟨rfl, h1, hu1⟩; have ca := h1.call; have za := h1.thaw 141; have HW := Lib.hid (And.intro h1 hu1); clear h1 hu1; go_wp2_with fail; have hall : HashAt (w1.setCell ⟨g, 141, none⟩ (.int .i64 (R.length : Int))) g 1 0 rootsM startM zb64 0 R.length := HW.out.1.setAll _; have hu2 : Upd (fun i => i = g) w (w1.setCell ⟨g, 141, none⟩ (.int .i64 (R.length : Int))) := HW.out.2.setCell (p := ⟨g, 141, none⟩) _ fun _ => rfl; have HX := Lib.hid (And.intro hall hu2); clear hall hu2 HW ca za; generalize w1.setCell ⟨g, 141, none⟩ (.int .i64 (R.length : Int)) = w2 at *
  go_loopw [1, 5] (fun v n wr => ∃ (i cn : Nat) (A' : Option Addr) (c' hd : Nat) (blk : Bytes), v = .slice A' (R.length - cn) c' ∧ cn ≤ R.length ∧ R.length - cn ≤ c' ∧ Upd (fun i => i = g) w wr ∧ HashAt wr g 1 0 rootsM (absorbN rootsM startM R i) blk hd R.length ∧
      (cn < R.length → cn = 64 * i ∧ hd = 0 ∧ ∃ b off, A = some ⟨b, off, none⟩ ∧ A' = some ⟨b, off + cn, none⟩) ∧ (cn = R.length → ∃ T, T = R.drop (64 * i) ∧ R.length = 64 * i + T.length ∧ T.length < 64 ∧ hd = T.length ∧ blk.take T.length = T)) (fun v _ _ => match v with | .slice _ n _ => n | _ => 0)
  case atStart =>
    refine ⟨0, 0, A, c, 0, zb64, rfl, Nat.zero_le _, ?_, HX.out.2, ?_, fun h => ⟨rfl, rfl, ?_⟩, fun h => ⟨[], ?_, ?_, by simp, rfl, rfl⟩⟩
    · have := HH.out.2.2.2; omega
    · rw [absorbN_zero]; exact HX.out.1
    · rcases HH.out.2.1 with rfl | ⟨b, off, rfl, _⟩
      · simp at h
      · exact ⟨b, off, rfl, rfl⟩
    · have : R = [] := List.eq_nil_of_length_eq_zero h.symm
      rw [this]; rfl
    · simp only [List.length_nil]; omega
  case round =>
    obtain ⟨i, cn, A', c', hd, blk, rfl, hcn, hcc, hu, hh, hmore, hdone⟩ := hrel; rcases Nat.lt_or_ge cn R.length with hlt | hge
    · obtain ⟨rfl, rfl, b, off, rfl, rfl⟩ := hmore hlt
      have hbg : b ≠ g := HH.out.2.2.1 (by rintro rfl; simp at hlt) ⟨b, off, none⟩ rfl; have hRb : ∀ W, Upd (fun i => i = g) w W → W.rangeAt b off (encB R) := fun W hW => by
        rcases HH.out.2.1 with h0 | ⟨b', off', e, h1⟩
        · rw [h0] at hlt; simp at hlt
        · simp only [Option.some.injEq, Addr.mk.injEq, and_true] at e
          obtain ⟨rfl, rfl⟩ := e; exact fun j v hv => hW.cell (h1 j v hv) (show ¬ b = g from hbg)
      obtain ⟨cs, hcs⟩ : ∃ cs, cs = (R.drop (64 * i)).take 64 := ⟨_, rfl⟩; have hcl : cs.length = min 64 (R.length - 64 * i) := by rw [hcs]; simp
      have hsrc : ∀ W, Upd (fun i => i = g) w W → ∀ j v, (encB cs)[j]? = some v → W.cell? ((⟨b, off + 64 * i, none⟩ : Addr).add j) = some v := fun W hW j v hv => by
        rw [add_none, Nat.add_assoc]; refine hRb W hW (64 * i + j) v ?_; rw [← hv, hcs, encB_take, encB_drop, List.getElem?_take_of_lt, List.getElem?_drop]; have := (List.getElem?_eq_some_iff.1 hv).1; rw [encB_length, hcl] at this; omega
      have f140 : ∀ W, (HashAt W g 1 0 rootsM (absorbN rootsM startM R i) blk 0 R.length ∧ Upd (fun i => i = g) w W) → W.cell? ⟨g, 140, none⟩ = some (.int .i64 0) := fun W hW => hW.1.cheld; have fsl : ∀ W : World, (Instr.sliceAt 154 (.pointer (some ⟨g, 76, none⟩)) (some (.int .i64 0)) none none).run Tryz.prog W = .ok (.slice (some ⟨g, 76, none⟩) 64 64) W := fun W => slice_b64_l W g 76 0 0 rfl (by omega); have hS0 : HashAt wr.drew g 1 0 rootsM (absorbN rootsM startM R i) blk 0 R.length ∧ Upd (fun i => i = g) w wr.drew := ⟨⟨hh.b.drew, hh.lk, hh.ls, hh.lb⟩, hu.drew⟩; have HC := Lib.hid (And.intro hcs (And.intro hcl (And.intro hsrc (And.intro hcc hlt)))); have hpos : (0 : Int) < ((R.length - 64 * i : Nat) : Int) := by exact_mod_cast Nat.sub_pos_of_lt hlt
      clear hcs hcl hsrc hcc hlt hh hu hmore hdone hRb HX; obtain ⟨m, hm⟩ : ∃ m, m = R.length - 64 * i := ⟨_, rfl⟩; rw [← hm] at hpos ⊢; have HM := Lib.hid hm; clear hm; have HPOS : Hid (0 < m) := by show 0 < m; exact_mod_cast hpos
      go_wp2_with fail; refine wp_region_mild 9 (by kernel_rfl) (by kernel_rfl) (fun W => HashAt W g 1 0 rootsM (absorbN rootsM startM R i) blk 0 R.length ∧ Upd (fun i => i = g) w W) hS0 ?_; simp only [List.take_succ_cons, List.take_zero, List.drop_succ_cons, List.drop_zero]
      iterate 9 (refine wpMild_step (fun K hK => ?_); go_simp; apply Exists.intro; refine ⟨fun W hW => ?_, hK _ ?_⟩; (go_simp; first | done | exact rfl | exact ⟨rfl, hW⟩); clear hK K)
      refine wpMild_nil (fun wb hS => ?_); clear f140 fsl hS0; have hcp := hS.1.copy cs (by have := HC.out.2.1; omega); have hcu : Upd (fun i => i = g) w (wb.setRow g ((hashV 1 0 rootsM (absorbN rootsM startM R i) blk 0 R.length).toArray.toList.take 76 ++ (encB cs ++ (hashV 1 0 rootsM (absorbN rootsM startM R i) blk 0 R.length).toArray.toList.drop (76 + (encB cs).length))).toArray) := hS.2.setRow _ _ fun _ => rfl; refine wpList_copy_own rfl (.tmp 36) (.tmp 37) 42 42 rfl 5 Tryz.underlying42 u8_size1 g 76 64 64 ⟨b, off + 64 * i, none⟩ m c' rfl rfl (hashV 1 0 rootsM (absorbN rootsM startM R i) blk 0 R.length).toArray 156 hS.1.b (encB cs) ?_ (HC.out.2.2.1 wb hS.2) ?_ (encB_one cs) ?_
      · rw [encB_length, HC.out.2.1, ← HM.out]; show min 64 m = min m 64; omega
      · rw [encB_length]; have := hS.1.len; have := HC.out.2.1; simp only [List.size_toArray]; omega
      have HY := Lib.hid (And.intro hcp hcu); clear hcp hcu hS; generalize wb.setRow g _ = W3 at *; have hcl : cs.length = min 64 m := by rw [HC.out.2.1, HM.out]
      have hgo : goInt (encB cs).length = .int .i64 (cs.length : Int) := by rw [encB_length]; rfl
      rw [hgo]; have hle : cs.length ≤ m := by omega
      have fs2 : ∀ W : World, (Instr.sliceAt 42 (.slice (some ⟨b, off + 64 * i, none⟩) m c') (some (.int .i64 (cs.length : Int))) none none).run Tryz.prog W = .ok (.slice (some (if c' = cs.length then ⟨b, off + 64 * i, none⟩ else ⟨b, off + 64 * i + cs.length, none⟩)) (m - cs.length) (c' - cs.length)) W := fun W => slice_u8_l W b _ m c' cs.length _ rfl hle; have h140 := HY.out.1.cheld; have z140 := HY.out.1.thaw 140; have HL := Lib.hid (And.intro hcl hle); clear hcl hle hgo; obtain ⟨n, hn⟩ : ∃ n, n = cs.length := ⟨_, rfl⟩; rw [← hn] at fs2 ⊢; have HN := Lib.hid hn; clear hn; have h1 := HY.out.1.setHeld (n : Int); have hv1 : Upd (fun i => i = g) w (W3.setCell ⟨g, 140, none⟩ (.int .i64 (n : Int))) := HY.out.2.setCell (p := ⟨g, 140, none⟩) _ fun _ => rfl; have h140' := h1.cheld; have HZ := Lib.hid (And.intro h1 hv1); clear h1 hv1; have hn64 : n ≤ 64 := by have := HL.out.1; have := HN.out; omega
      rcases Nat.lt_or_ge n 64 with hlt | hge
      · have hlt' : (n : Int) < 64 := by omega
        have hne : ¬ (n : Int) = 64 := by omega
        go_wp2_with fail
        go_roundw
        case rel =>
          have hnm : n = m := by have := HL.out.1; have := HN.out; omega
          have hcsd : cs = R.drop (64 * i) := by
            rw [HC.out.1, List.take_of_length_le]; rw [List.length_drop, ← HM.out]; omega
          have hml : m = R.length - 64 * i := HM.out; refine ⟨i, R.length, some (if c' = n then ⟨b, off + 64 * i, none⟩ else ⟨b, off + 64 * i + n, none⟩), c' - n, n, cs ++ blk.drop cs.length, ?_, Nat.le_refl _, by omega, HZ.out.2, HZ.out.1, fun h => absurd h (Nat.lt_irrefl _), fun _ => ⟨cs, hcsd, ?_, by rw [← HN.out]; exact hlt, HN.out, ?_⟩⟩
          · rw [hnm, Nat.sub_self, Nat.sub_self]
          · have := HC.out.2.2.2.2; have := HN.out; omega
          · rw [List.take_left]
        case measure => have h1 := HL.out.1; have h2 := HN.out; have h3 := HPOS.out; show m - n < m; omega
      · obtain rfl : n = 64 := by omega
        have hcs64 : cs.length = 64 := HN.out.symm; obtain ⟨A2, hA2⟩ : ∃ A2 : Option Addr, A2 = some (if c' = 64 then ⟨b, off + 64 * i, none⟩ else ⟨b, off + 64 * i + 64, none⟩) := ⟨_, rfl⟩; have fs3 : ∀ W : World, (Instr.sliceAt 42 (.slice (some ⟨b, off + 64 * i, none⟩) m c') (some (.int .i64 64)) none none).run Tryz.prog W = .ok (.slice A2 (m - 64) (c' - 64)) W := by rw [hA2]; exact fs2
        have HA2 := Lib.hid hA2; clear fs2 hA2; have hb2 : HashAt (W3.setCell ⟨g, 140, none⟩ (.int .i64 64)) g 1 0 rootsM (absorbN rootsM startM R i) cs 64 R.length := by
          have h1 := HZ.out.1; rw [List.drop_of_length_le (by have := h1.lb; simp [hcs64] at this; omega), List.append_nil] at h1; exact h1
        have HB := Lib.hid (And.intro hb2 (show Upd (fun i => i = g) w (W3.setCell ⟨g, 140, none⟩ (.int .i64 64)) from HZ.out.2)); have h64c := hb2.cheld; clear hb2 hcs64 hge hn64 HZ h140'; go_wp2_with fail; generalize W3.setCell ⟨g, 140, none⟩ (.int .i64 64) = W4 at *; have f68 : ∀ W, (HashAt W g 1 0 rootsM (absorbN rootsM startM R i) cs 64 R.length ∧ Upd (fun i => i = g) w W) → segB W ⟨g, 68, none⟩ 8 = true := fun W hW => hW.1.segS.1; have f68' : ∀ W, (HashAt W g 1 0 rootsM (absorbN rootsM startM R i) cs 64 R.length ∧ Upd (fun i => i = g) w W) → segV W ⟨g, 68, none⟩ 8 = w32A (absorbN rootsM startM R i) := fun W hW => hW.1.segS.2; refine wp_region_mild 12 (by kernel_rfl) (by kernel_rfl) (fun W => HashAt W g 1 0 rootsM (absorbN rootsM startM R i) cs 64 R.length ∧ Upd (fun i => i = g) w W) (And.intro ⟨HB.out.1.b.drew, HB.out.1.lk, HB.out.1.ls, HB.out.1.lb⟩ HB.out.2.drew) ?_; simp only [List.take_succ_cons, List.take_zero, List.drop_succ_cons, List.drop_zero]
        iterate 11 (refine wpMild_step (fun K hK => ?_); go_simp; apply Exists.intro; refine ⟨fun W hW => ?_, hK _ ?_⟩; (go_simp; first | done | exact rfl | exact ⟨rfl, hW⟩); clear hK K)
        refine wpMild_step (fun K hK => ?_); go_simp; apply Exists.intro; refine ⟨fun W hW => ?_, hK _ ?_⟩
        · go_simp
          refine (sha_take hW.1.ls hW.1.lb hW.1.lk hW.1.rb hW.1.rk).mono ?_; rintro e w' ⟨rfl, hu⟩; exact ⟨rfl, hW.1.kept hu, hW.2.then hu fun _ _ h => h.elim⟩
        clear hK K; refine wpMild_nil (fun wb hS => ?_); obtain ⟨W5, r5, h5, u5⟩ := hS.1.runS (takeM_length hS.1.ls cs rootsM); have v5 := hS.2.trans u5; have c5 := h5.cheld; have z5 := h5.thaw 140; have HQ := Lib.hid (And.intro (h5.setHeld 0) (v5.setCell (p := ⟨g, 140, none⟩) (.int .i64 0) fun _ => rfl)); clear f68 f68' hS h5 u5 v5; go_wp2_with fail
        go_roundw
        case rel =>
          have hm64 : 64 ≤ m := by have h1 := HL.out.2; have h2 := HN.out; omega
          have hml : m = R.length - 64 * i := HM.out; have hcm : m ≤ c' := by have := HC.out.2.2.2.1; omega
          have hsucc : takeM (absorbN rootsM startM R i) cs rootsM = absorbN rootsM startM R (i + 1) := by rw [absorbN_succ, ← HC.out.1]
          have hq1 := HQ.out.1; rw [hsucc] at hq1; refine ⟨i + 1, 64 * (i + 1), A2, c' - 64, 0, cs, ?_, by omega, by omega, HQ.out.2, hq1, fun h => ⟨rfl, rfl, b, off, rfl, ?_⟩, fun h => ⟨[], ?_, ?_, by simp, rfl, rfl⟩⟩
          · congr 1; omega
          · rw [HA2.out, if_neg (by omega)]
            congr 2
          · rw [List.drop_of_length_le (by omega)]
          · simp only [List.length_nil]; omega
        case measure => have h3 := HPOS.out; show m - 64 < m; omega
    · obtain rfl : cn = R.length := by omega
      obtain ⟨T, hT1, hT2, hT3, rfl, hT4⟩ := hdone rfl; have HF : Hid (∃ q T blk, T = R.drop (64 * q) ∧ R.length = 64 * q + T.length ∧ T.length < 64 ∧ blk.take T.length = T ∧ HashAt wr g 1 0 rootsM (absorbN rootsM startM R q) blk T.length R.length) := ⟨i, T, blk, hT1, hT2, hT3, hT4, hh⟩; have HU := Lib.hid hu; clear hu hh hmore hdone hT1 hT2 hT3 hT4; rw [Nat.sub_self]; go_wp2
      go_ret
      exact ⟨rfl, HU.out, HF.out⟩
end Go.Proofs.YtepjbijhkkjbfaaGreat
