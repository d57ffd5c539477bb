/- sha: the whole function, on lists. -/
import Derived.Test.YtjimamgghkgdeaaShaE
namespace Go.Proofs.Ytjimamgghkgdeaa
open Go.RowKit

/-- the lowest byte -/
def byteW (x : Int) : UInt8 := UInt8.ofNat (x % 256).toNat
theorem byteW_val (x : Int) : ((byteW x).toNat : Int) = x % 256 := by
  unfold byteW
  have h1 : 0 ≤ x % 256 := Int.emod_nonneg _ (by omega)
  have h2 : x % 256 < 256 := Int.emod_lt_of_pos _ (by omega)
  simp only [UInt8.toNat_ofNat']
  omega

/-- the state behind so many blocks -/
def absorbN (K st : List Int) (l : Bytes) : Nat → List Int
  | 0 => st
  | i + 1 => takeM (absorbN K st l i) ((l.drop (64 * i)).take 64) K
theorem absorbN_length {K st : List Int} {l : Bytes} (h : st.length = 8) : ∀ i, (absorbN K st l i).length = 8
  | 0 => h
  | i + 1 => takeM_length (absorbN_length h i) _ _
theorem absorbN_same {K st : List Int} {l l' : Bytes} : ∀ (n : Nat), l.take (64 * n) = l'.take (64 * n) → absorbN K st l n = absorbN K st l' n
  | 0, _ => rfl
  | n + 1, h => by
    have h1 : l.take (64 * n) = l'.take (64 * n) := by
      have := congrArg (List.take (64 * n)) h
      rwa [List.take_take, List.take_take, Nat.min_eq_left (by omega)] at this
    have h2 : (l.drop (64 * n)).take 64 = (l'.drop (64 * n)).take 64 := by
      have := congrArg (List.drop (64 * n)) h
      rwa [List.drop_take, List.drop_take, show 64 * (n + 1) - 64 * n = 64 by omega] at this
    simp only [absorbN, absorbN_same n h1, h2]

/-- how many bytes there were, in eight -/
def lenB (n : Nat) : Bytes := (List.range 8).map fun j => byteW ((8 * n : Nat) / 2 ^ (8 * (7 - j)))
@[simp] theorem lenB_length (n : Nat) : (lenB n).length = 8 := by simp [lenB]
def padM (R : Bytes) : Bytes := R ++ (128 :: (List.replicate ((119 - R.length % 64) % 64) 0 ++ lenB R.length))
def outL (st : List Int) : Bytes := (List.range 32).map fun i => byteW (st.getD (i / 4) 0 / 2 ^ (24 - 8 * (i % 4)))
def outM (st : List Int) : Dig := ⟨outL st, by simp [outL]⟩
/-- the digest of bytes -/
def shaM (R : Bytes) : Dig := outM (absorbN rootsM startM (padM R) ((padM R).length / 64))

/-- the last block: what is held, 128, zeros -/
def tailB (T : Bytes) : Bytes := T ++ (128 :: List.replicate (63 - T.length) 0)
/-- .. with the length in its last eight -/
def withLen (b : Bytes) (n : Nat) : Bytes := b.take 56 ++ lenB n
theorem pad_short {R : Bytes} {q : Nat} {T : Bytes} (hT : T = R.drop (64 * q)) (hl : R.length = 64 * q + T.length) (h : T.length < 56) (K st : List Int) :
    absorbN K st (padM R) ((padM R).length / 64) = takeM (absorbN K st R q) (withLen (tailB T) R.length) K := by
  have hm : R.length % 64 = T.length := by omega
  have hz : (119 - R.length % 64) % 64 = 55 - T.length := by omega
  have hn : (padM R).length / 64 = q + 1 := by simp [padM, hz]; omega
  rw [hn, absorbN]
  congr 1
  · refine absorbN_same q ?_
    rw [padM, List.take_append_of_le_length (by omega)]
  · rw [padM, hz, List.drop_append_of_le_length (by omega), ← hT]
    have : T ++ 128 :: (List.replicate (55 - T.length) 0 ++ lenB R.length) = withLen (tailB T) R.length := by
      simp only [withLen, tailB]
      rw [List.take_append, List.take_of_length_le (by omega), show 56 - T.length = (55 - T.length) + 1 by omega, List.take_succ_cons, List.take_replicate, Nat.min_eq_left (by omega)]
      simp
    rw [this]
    refine List.take_of_length_le ?_
    simp [withLen, tailB]
    omega
theorem pad_long {R : Bytes} {q : Nat} {T : Bytes} (hT : T = R.drop (64 * q)) (hl : R.length = 64 * q + T.length) (h : 56 ≤ T.length) (h64 : T.length < 64) (K st : List Int) :
    absorbN K st (padM R) ((padM R).length / 64) = takeM (takeM (absorbN K st R q) (tailB T) K) (withLen zb64 R.length) K := by
  have hm : R.length % 64 = T.length := by omega
  have hz : (119 - R.length % 64) % 64 = (63 - T.length) + 56 := by omega
  have hn : (padM R).length / 64 = q + 1 + 1 := by simp [padM, hz]; omega
  have hp : padM R = R ++ (128 :: List.replicate (63 - T.length) 0) ++ (List.replicate 56 0 ++ lenB R.length) := by
    rw [padM, hz, ← List.replicate_append_replicate]
    simp
  have hlen : (R ++ (128 :: List.replicate (63 - T.length) 0)).length = 64 * (q + 1) := by simp; omega
  rw [hn, absorbN, absorbN]
  congr 1
  · congr 1
    · refine absorbN_same q ?_
      rw [padM, List.take_append_of_le_length (by omega)]
    · rw [hp, List.append_assoc, List.drop_append_of_le_length (by omega), ← hT]
      have : T ++ (128 :: List.replicate (63 - T.length) 0 ++ (List.replicate 56 0 ++ lenB R.length)) = tailB T ++ (List.replicate 56 0 ++ lenB R.length) := by simp [tailB]
      rw [this, List.take_append_of_le_length (by simp [tailB]; omega)]
      refine List.take_of_length_le ?_
      simp [tailB]; omega
  · rw [hp, ← hlen, List.drop_left]
    have : List.replicate 56 0 ++ lenB R.length = withLen zb64 R.length := by
      simp [withLen, zb64, List.take_replicate]
    rw [this]
    refine List.take_of_length_le ?_
    simp [withLen, zb64]
theorem absorbN_zero (K st : List Int) (l : Bytes) : absorbN K st l 0 = st := rfl
theorem absorbN_succ (K st : List Int) (l : Bytes) (i : Nat) : absorbN K st l (i + 1) = takeM (absorbN K st l i) ((l.drop (64 * i)).take 64) K := rfl
theorem shaM_def (R : Bytes) : shaM R = outM (absorbN rootsM startM (padM R) ((padM R).length / 64)) := rfl
theorem outM_val (st : List Int) : (outM st).1 = outL st := rfl
attribute [irreducible] shaM absorbN padM outM
end Go.Proofs.Ytjimamgghkgdeaa
