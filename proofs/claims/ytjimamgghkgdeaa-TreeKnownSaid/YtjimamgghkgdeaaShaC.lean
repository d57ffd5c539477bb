/- sha: primes. -/
import Derived.Test.YtjimamgghkgdeaaShaB
import Derived.WalkMore
namespace Go.Proofs.Ytjimamgghkgdeaa
open Go.RowKit

/-- the first ones, when n comes -/
def primeStep (l : List Nat) (n : Nat) : List Nat := if l.any (fun p => n % p == 0) then l else l ++ [n]
def primesTo : Nat → List Nat
  | 0 => []
  | k + 1 => primeStep (primesTo k) (k + 2)
theorem primes_pos (k : Nat) : ∀ p ∈ primesTo k, 2 ≤ p ∧ p ≤ k + 1 := by
  induction k with
  | zero => simp [primesTo]
  | succ k ih =>
    intro p hp
    simp only [primesTo, primeStep] at hp
    split at hp
    · have := ih p hp; omega
    · rcases List.mem_append.1 hp with hp | hp
      · have := ih p hp; omega
      · simp at hp; omega
theorem primes_mono (k : Nat) : (primesTo k).length ≤ (primesTo (k + 1)).length := by
  simp only [primesTo, primeStep]
  split <;> simp
theorem primes_le {j k : Nat} (h : j ≤ k) : (primesTo j).length ≤ (primesTo k).length := by
  induction k with
  | zero => obtain rfl : j = 0 := by omega
            exact Nat.le_refl _
  | succ k ih =>
    rcases Nat.lt_or_ge k j with h1 | h1
    · obtain rfl : j = k + 1 := by omega
      exact Nat.le_refl _
    · exact Nat.le_trans (ih h1) (primes_mono k)
theorem primes_len (k : Nat) : (primesTo k).length ≤ k := by
  induction k with
  | zero => simp [primesTo]
  | succ k ih =>
    simp only [primesTo, primeStep]
    split
    · omega
    · simp; omega
/-- the first 8 -/
theorem primes_8 : (primesTo 18).length = 8 ∧ (primesTo 17).length = 7 := by decide +kernel
/-- the first 64 -/
theorem primes_64 : (primesTo 310).length = 64 ∧ (primesTo 309).length = 63 := by decide +kernel

theorem u64_info : ∃ i, Try.prog.info? 124 = some i ∧ i.zero = some (.int .u64 0) ∧ i.size = 1 ∧ i.bytes = 8 := by
  have h : (Try.prog.info? 124).map (fun i => (i.zero, i.size, i.bytes)) = some (some (.int .u64 0), 1, 8) := by kernel_rfl
  obtain ⟨i, hi, h2⟩ := Option.map_eq_some_iff.1 h
  simp only [Prod.mk.injEq] at h2
  exact ⟨i, hi, h2.1, h2.2.1, h2.2.2⟩

def primeV (l : List Nat) : List Value := l.map fun (p : Nat) => Value.int .u64 (p : Int)
/-- numbers in a row of the call's own -/
def OwnU64 (W : World) (B : Nat) (v : Value) (l : List Nat) : Prop := W.ownsRow B 124 1 v l.length (primeV l)
theorem OwnU64.form {W : World} {B : Nat} {v : Value} {l : List Nat} (h : OwnU64 W B v l) : ∃ A c, v = .slice A l.length c := by
  rcases h.2 with ⟨rfl, h0⟩ | ⟨g, cap, cur, rfl, _⟩
  · exact ⟨_, _, by rw [h0]⟩
  · exact ⟨_, _, rfl⟩
theorem OwnU64.alloc {W : World} {B : Nat} {v : Value} {l : List Nat} (h : OwnU64 W B v l) (o : Obj) : OwnU64 (W.alloc o) B v l :=
  ⟨h.1, h.2.imp id fun ⟨g, cap, cur, hv, hb, hg, hr⟩ => ⟨g, cap, cur, hv, hb, by rw [heap_alloc_old W o (Array.getElem?_eq_some_iff.1 hg).1]; exact hg, hr⟩⟩
theorem OwnU64.upd {W W' : World} {B : Nat} {v : Value} {l : List Nat} {S : Nat → Prop} (h : OwnU64 W B v l) (hu : Upd S W W') (hs : ∀ k, v.ownBlock = some k → ¬ S k) : OwnU64 W' B v l := by
  refine ⟨h.1, h.2.imp id fun ⟨g, cap, cur, hv, hb, hg, hr⟩ => ⟨g, cap, cur, hv, hb, ?_, hr⟩⟩
  subst hv
  exact hu.heap hg (hs g rfl)
theorem OwnU64.get {W : World} {B : Nat} {v : Value} {l : List Nat} (h : OwnU64 W B v l) {k : Nat} (hk : k < l.length) :
    ∃ g c, v = .slice (some ⟨g, 0, none⟩) l.length c ∧ W.cell? ⟨g, k, none⟩ = some (.int .u64 (l[k] : Nat)) := by
  obtain ⟨g, cap, rfl, hb, hlt⟩ := World.ownsRow.form h (by omega)
  have := World.ownsRow.cells h (g := g) rfl k (.int .u64 (l[k] : Nat)) (by simp [primeV, hk])
  rw [add_none, Nat.zero_add] at this
  exact ⟨g, cap, rfl, this⟩

set_option maxHeartbeats 1000000 in
theorem sha_primes (many K : Nat) (hK : K ≤ 400) (hlen : (primesTo K).length = many) (hlt : ∀ k, k < K → (primesTo k).length < many) (w : World) :
    Calls Try.prog 84 #[.int .i64 many] w fun e w' => ∃ v, e = .returned v ∧ OwnU64 w' w.heap.size v (primesTo K) ∧ Kept w w' := by
  obtain ⟨i0, hi, hz0, hz1, hz2⟩ := u64_info
  have HH := Lib.hid (And.intro hK (And.intro hlen hlt))
  have HI := Lib.hid (And.intro hi (And.intro hz0 (And.intro hz1 hz2)))
  clear hK hlen hlt hi hz0 hz1 hz2
  go_enter Try.func84, Try.ntmps84
  go_wp2_with fail
  go_step3
  go_wp2_with fail
  go_step3
  go_wp2_with fail
  go_loopw [3, 4] (fun v n wr => ∃ k : Nat, k ≤ K ∧ n = .int .u64 (k + 2 : Nat) ∧ OwnU64 wr w.heap.size v (primesTo k) ∧ Kept w wr) (fun _ n _ => (K + 2) - (intOf n).toNat)
  case atStart => exact ⟨0, Nat.zero_le _, rfl, World.ownsRow_nil _ _ _ _, Upd.refl _ _⟩
  case round =>
    obtain ⟨k, hk, rfl, ho, hu⟩ := hrel
    obtain ⟨A, c, rfl⟩ := ho.form
    have HP : Hid (∀ p ∈ primesTo k, 2 ≤ p ∧ p ≤ k + 1) := primes_pos k
    have HS : Hid (primesTo (k + 1) = primeStep (primesTo k) (k + 2)) := rfl
    have HL : Hid ((primesTo k).length ≤ k) := primes_len k
    by_cases hm : (primesTo k).length < many
    · have hkK : k < K := by
        rcases Nat.lt_or_ge k K with h | h
        · exact h
        · obtain rfl : k = K := by omega
          have := HH.out.2.1; omega
      have HO := Lib.hid (And.intro ho hu)
      have hm' : ((primesTo k).length : Int) < (many : Int) := by omega
      have h400 : k + 2 < 500 := by have := HH.out.1; omega
      have HM : Hid ((primesTo k).length < 500) := by have := HL.out; show _ < _; omega
      clear ho hu hm
      generalize primesTo k = l at *
      have hl5 : l.length < 500 := HM.out
      obtain ⟨n, hn⟩ : ∃ n, n = k + 2 := ⟨_, rfl⟩
      rw [← hn] at h400 ⊢
      have HNK := Lib.hid hn
      clear hn
      go_wp2_with fail
      go_loopw [15] (fun i wr2 => ∃ j : Nat, j ≤ l.length ∧ i = .int .i64 j ∧ (∀ p ∈ l.take j, ¬ n % p = 0) ∧ wr = wr2) (fun i _ => l.length - (intOf i).toNat)
      case atStart => exact ⟨0, Nat.zero_le _, rfl, by simp, rfl⟩
      case round =>
        obtain ⟨j, hj, rfl, hno, rfl⟩ := hrel
        by_cases hjl : j < l.length
        · obtain ⟨g, c', e, hc⟩ := HO.out.1.get hjl
          simp only [Value.slice.injEq, true_and] at e
          obtain ⟨rfl, rfl⟩ := e
          have HT : Hid (∀ p ∈ l.take j, ¬ n % p = 0) := hno
          have HG : Hid (l.take (j + 1) = l.take j ++ [l[j]]) := by show _ = _; simp
          have hp2 := (HP.out l[j] (by simp)).1
          have HQ := Lib.hid (And.intro (show l[j] ∈ l by simp) (rfl : l[j] = l[j]))
          have HX : Hid (∃ q, q = l[j] ∧ q ∈ l) := ⟨_, rfl, by simp⟩
          clear hno
          generalize l[j] = p at *
          have hp0 : ¬ (p : Int) = 0 := by omega
          by_cases hd : n % p = 0
          · have hd' : (n : Int) % (p : Int) = 0 := by omega
            have HD := Lib.hid hd
            go_wp2
            go_roundw
            case rel =>
              refine ⟨k + 1, by omega, ?_, ?_, HO.out.2⟩
              · show _ = _
                rw [HNK.out]; go_num
              · obtain ⟨q, rfl, hq⟩ := HX.out
                have : primesTo (k + 1) = l := by
                  rw [HS.out, primeStep, if_pos]
                  rw [List.any_eq_true]
                  exact ⟨q, hq, by rw [← HNK.out]; simpa using HD.out⟩
                rw [this]
                exact HO.out.1
            case measure => have := HNK.out; simp [intOf]; omega
          · have hd' : ¬ (n : Int) % (p : Int) = 0 := by omega
            have HD := Lib.hid hd
            go_wp2
            go_roundw
            case rel =>
              refine ⟨j + 1, by omega, by go_num, ?_, trivial⟩
              obtain ⟨q, rfl, hq⟩ := HX.out
              intro x hx
              rw [HG.out] at hx
              rcases List.mem_append.1 hx with hx | hx
              · exact HT.out x hx
              · rw [List.mem_singleton.1 hx]; exact HD.out
            case measure => simp [intOf]; omega
        · obtain rfl : j = l.length := by omega
          have HT : Hid (∀ p ∈ l, ¬ n % p = 0) := by have := hno; rw [List.take_length] at this; exact this
          clear hno
          obtain ⟨ho, hu⟩ := HO.out
          have ho1 : (wr.alloc (.cells #[Value.int .u64 (n : Int)] 124)).ownsRow w.heap.size 124 1 (.slice A l.length c) l.length (primeV l) := ho.alloc _
          have hc1 : (wr.alloc (.cells #[Value.int .u64 (n : Int)] 124)).cell? ⟨wr.heap.size, 0, none⟩ = some (.int .u64 (n : Int)) := Blk.cell (Blk.new wr 124 [.int .u64 (n : Int)]) rfl
          have hB : w.heap.size ≤ (wr.alloc (.cells #[Value.int .u64 (n : Int)] 124)).heap.size := by rw [World.size_alloc]; have := hu.size; omega
          have HU := Lib.hid (hu.alloc (.cells #[Value.int .u64 (n : Int)] 124))
          clear ho hu
          have hcs : ∀ j u, [Value.int .u64 (n : Int)][j]? = some u → (wr.alloc (.cells #[Value.int .u64 (n : Int)] 124)).cell? ((⟨wr.heap.size, 0, none⟩ : Addr).add j) = some u := fun j u hu => by
            obtain ⟨hx, rfl⟩ := List.getElem?_eq_some_iff.1 hu
            obtain rfl : j = 0 := by simpa using hx
            exact hc1
          have h1s : ∀ u ∈ [Value.int .u64 (n : Int)], u.oneCell' = true := fun u hu => by rw [List.mem_singleton.1 hu]; rfl
          clear hc1
          go_wp2_with (at_builtin; generalize wr.alloc (.cells #[Value.int .u64 (n : Int)] 124) = W1 at *; refine wpList_append_own _ rfl (.tmp 24) (.tmp 26) 142 rfl w.heap.size 124 i0 (.int .u64 0) 1 8 Try.underlying142 HI.out.1 HI.out.2.1 HI.out.2.2.1 HI.out.2.2.2 rfl (by decide) (.slice A l.length c) l.length (primeV l) rfl ho1 ⟨wr.heap.size, 0, none⟩ 1 1 [.int .u64 (n : Int)] rfl (by simp) hcs h1s (by unfold maxLen; omega) (by omega) (by omega) ?_; intro v' w' hown hgr hnil)
          go_roundw
          case rel =>
            have hpr : primesTo (k + 1) = l ++ [n] := by
              rw [HS.out, primeStep, if_neg, HNK.out]
              rw [List.any_eq_true]
              rintro ⟨p, hp, hd⟩
              have h2 := HT.out p hp
              rw [HNK.out] at h2
              exact h2 (by simpa using hd)
            refine ⟨k + 1, by omega, ?_, ?_, ?_⟩
            · show _ = _
              rw [HNK.out]; go_num
            · rw [hpr]
              unfold OwnU64
              rw [List.length_append, List.length_singleton, show primeV (l ++ [n]) = primeV l ++ [.int .u64 (n : Int)] by simp [primeV]]
              exact hown
            · exact HU.out.grown hgr fun k hk e => by
                have := World.ownsRow.lt ho1 k (by simpa using e.symm)
                omega
          case measure => have := HNK.out; simp [intOf]; omega
    · have hkK : k = K := by
        rcases Nat.lt_or_ge k K with h | h
        · have := HH.out.2.2 k h; omega
        · omega
      subst hkK
      have hm' : ¬ ((primesTo k).length : Int) < (many : Int) := by omega
      have HO := Lib.hid (And.intro ho hu)
      clear ho hu hm
      generalize hpk : primesTo k = l at *
      have HE := Lib.hid hpk
      clear hpk
      go_wp2
      first | rw [Exit.noGoto_ret] | skip
      go_ret
      exact ⟨_, rfl, HE.out.symm ▸ HO.out.1, HO.out.2⟩
end Go.Proofs.Ytjimamgghkgdeaa
