/- Keys that are arrays of integers, or structs of integers and such arrays. No program is named. -/
import Derived.Test.YtjimamgghkgdeaaBase
import Derived.DeepKeys4
namespace Go.Proofs.Ytjimamgghkgdeaa
open Go.RowKit
open Go.Maps (Keyed)

theorem mapM_some {α β : Type} {f : α → Option β} {g : α → β} : ∀ (l : List α), (∀ x ∈ l, f x = some (g x)) → l.mapM f = some (l.map g)
  | [], _ => rfl
  | a :: l, h => by
    rw [List.mapM_cons, h a (by simp), mapM_some l fun x hx => h x (by simp [hx])]
    rfl

theorem keyLits_bytes {P : Program} {t e : TypeId} {n : Nat} (ht : P.underlying t = some (.array n e)) (he : P.underlying e = some (.int .u8)) (hce : P.cellsOf e = 1) (hct : P.cellsOf t = n)
    (d : Nat) (l : List UInt8) (hl : l.length = n) : P.keyLits (d + 2) t (encB l) = some (l.map fun b => .int .u8 b.toNat) := by
  have h1 : ∀ i ∈ List.range n, P.keyLits (d + 1) e (((encB l).drop (i * P.cellsOf e)).take (P.cellsOf e)) = some ((fun i => [Lit.int .u8 ((l.getD i 0).toNat : Int)]) i) := by
    intro i hi
    have hi' : i < l.length := by rw [hl]; exact List.mem_range.1 hi
    have : ((encB l).drop (i * P.cellsOf e)).take (P.cellsOf e) = [.int .u8 (l.getD i 0).toNat] := by
      rw [hce, Nat.mul_one]
      have hlt : i < (encB l).length := by rw [encB_length]; exact hi'
      rw [List.drop_eq_getElem_cons hlt]
      simp [encB, hi']
    rw [this]
    unfold Program.keyLits
    simp [he, u8_wf]
  unfold Program.keyLits
  simp only [ht]
  rw [if_pos (by rw [encB_length, hl, hct]), mapM_some _ h1]
  simp only [Option.map_some, Option.some.injEq]
  apply List.ext_getElem?
  intro i
  rw [← List.flatMap_def]
  have hfl : (List.range n).flatMap (fun i => [Lit.int .u8 ((l.getD i 0).toNat : Int)]) = (List.range n).map (fun i => Lit.int .u8 ((l.getD i 0).toNat : Int)) := by
    rw [List.map_eq_flatMap]
  rw [hfl]
  simp only [List.getElem?_map]
  by_cases hi : i < n
  · rw [List.getElem?_range hi]
    simp [show i < l.length by omega]
  · rw [List.getElem?_eq_none (by simp; omega), List.getElem?_eq_none (by omega)]
    rfl

theorem keyOf_wide {P : Program} {k : TypeId} (hwide : (match P.underlying k with | some (.array _ _) | some (.struct _) => true | _ => false) = true) {v : Value} {L : List Lit} (hk : P.keyType k = true) (hf : v.formed P k = true)
    (hl : P.keyLits (P.types.size + 1) k v.cells.toList = some L) : keyOf P k v = some (.string (keyBytes L)) := by
  unfold keyOf
  split
  · rw [hk, hf, hl]; rfl
  · rw [hk, hf, hl]; rfl
  · rename_i h1 h2
    split at hwide
    · rename_i h; exact (h1 _ _ h).elim
    · rename_i h; exact (h2 _ h).elim
    · cases hwide
end Go.Proofs.Ytjimamgghkgdeaa
