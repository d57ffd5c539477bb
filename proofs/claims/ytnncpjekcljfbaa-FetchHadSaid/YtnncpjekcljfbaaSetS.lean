/- The texts of this hand-in, merged: GetD. -/
import Derived.Test.YtnncpjekcljfbaaSetR
/- Bring; the way to what is unlike; bytes with one more. -/
namespace Go.Proofs.Ytnncpjekcljfbaa
open Go.RowKit

/-- what is asked is on the way to a leaf that is unlike -/
theorem had_way {ls hs : List Bytes} {s : KM × BM} {ul : List Nat} {l p : Nat} (he : hs.length = ls.length) (hR : Real ls s) (hH : HitCl ls.length (some hs) s) (ha : askM ls.length s = some (l, p)) (hu : ∀ q, q < ls.length → q ∉ ul → hs.getD q [] = ls.getD q []) : ∃ q ∈ ul, q / 4 ^ l = p := by
  obtain ⟨hl, hp, hk, hc⟩ := askM_some ha
  obtain ⟨d, hd⟩ := Option.isSome_iff_exists.1 hk
  have h1 := hR.k _ _ _ hd
  apply Classical.byContradiction
  intro hno
  have h2 : digL hs l p = digL ls l p := same_above he l p hl hp (fun q hq => hu q hq.2.2 (fun hm => hno ⟨q, hm, by have := hq.2.1; rwa [Nat.sub_zero] at this⟩))
  have h3 := hH hs rfl l p d hl hd (by rw [oldAt_eq]; exact h2.trans h1.symm)
  rw [hc] at h3
  exact absurd h3 (by decide)
theorem cutB_cut (ls : List Bytes) : cutB (cutB ls) = cutB ls := by
  unfold cutB
  rw [List.take_of_length_le (by simp; omega), List.map_map]
  apply List.map_congr_left
  intro R hR
  show List.take 100 (List.take 100 R) = List.take 100 R
  rw [List.take_take, Nat.min_self]
/-- is one of them on the way up? -/
def wayB (ul : List Nat) (l p : Nat) : Bool := ul.any fun y => decide (y / 4 ^ l = p)
theorem wayB_iff (ul : List Nat) (l p : Nat) : wayB ul l p = true ↔ ∃ y ∈ ul, y / 4 ^ l = p := by simp [wayB]
theorem wayB_snoc (ul : List Nat) (y l p : Nat) : wayB (ul ++ [y]) l p = (wayB ul l p || decide (y / 4 ^ l = p)) := by simp [wayB]
/-- a number's way up -/
theorem quo4 (x : Nat) : (x : Int).tdiv 4 = ((x / 4 : Nat) : Int) := by
  rw [Int.tdiv_eq_ediv_of_nonneg (by omega)]; omega
/-- integers in memory -/
def IntsAt (W : World) (A : Option Addr) (l : List Int) : Prop := ∀ i (hi : i < l.length), ∃ b off, A = some ⟨b, off, none⟩ ∧ W.cell? ⟨b, off + i, none⟩ = some (.int .i64 l[i]) ∧ (Lit.int .i64 l[i]).wf = true
theorem IntsAt.kept {W W' : World} {A : Option Addr} {l : List Int} (h : IntsAt W A l) (hu : Kept W W') : IntsAt W' A l := fun i hi => by
  obtain ⟨b, off, h1, h2, h3⟩ := h i hi
  exact ⟨b, off, h1, hu.cell h2 id, h3⟩
section
variable {H : Type} {enc : TypeId × Value → H} {W : World}
theorem open_ints {cs : List Value} (h : ReadsAs enc Try.prog W 127 cs) : ∃ A c l, cs = [.slice A (List.length l) c] ∧ IntsAt W A l ∧ l.length ≤ 140737488351232 := by
  obtain ⟨A, n, c, rfl, hle, hmax, hb, hi⟩ := h.slice Try.underlying127 int_cells (by omega)
  have hx : ∀ i, i < n → ∃ x : Int, ∃ b off, A = some ⟨b, off, none⟩ ∧ W.cell? ⟨b, off + i, none⟩ = some (.int .i64 x) ∧ (Lit.int .i64 x).wf = true := by
    intro i hin
    obtain ⟨b, off, cs', hA, hl', hcell, hr⟩ := hi i hin
    obtain ⟨x, rfl, wx⟩ := hr.int Try.underlying3
    exact ⟨x, b, off, hA, by simpa using hcell 0 (by omega), wx⟩
  obtain ⟨l, hl, hp⟩ := list_of n hx
  subst hl
  have hbb : Try.prog.bytesOf 3 = 8 := by kernel_rfl
  exact ⟨A, c, l, rfl, hp, by rw [hbb] at hb; unfold reachBytes at hb; omega⟩
end
end Go.Proofs.Ytnncpjekcljfbaa
