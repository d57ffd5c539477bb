/- The texts of this hand-in, merged: GetC. -/
import Derived.Test.YtnncpjekcljfbaaSetQ
import Derived.Test.YtnncpjekcljfbaaSetD
/- Deeds in memory, opened. -/
namespace Go.Proofs.Ytnncpjekcljfbaa
open Go.ChangeShapes Go.WideShapes Go.ChangeAt Go.RowKit

structure DeedV where
  is : Bool
  lv : Int
  pl : Int
  x : SlC
  D : List Dig
  y : SlC
  R : Bytes
structure DeedAt (W : World) (b off : Nat) (d : DeedV) : Prop where
  c0 : W.cell? ⟨b, off, none⟩ = some (.bool d.is)
  c1 : W.cell? ⟨b, off + 1, none⟩ = some (.int .i64 d.lv)
  c2 : W.cell? ⟨b, off + 2, none⟩ = some (.int .i64 d.pl)
  c3 : W.cell? ⟨b, off + 3, none⟩ = some (SlC.v d.x)
  c4 : W.cell? ⟨b, off + 4, none⟩ = some (SlC.v d.y)
  ds : Digs W d.x.A d.D ∧ d.x.n = d.D.length
  bs : LeafAt W d.y d.R ∧ d.R.length ≤ 140737488351232
theorem DeedAt.kept {W W' : World} {b off : Nat} {d : DeedV} (h : DeedAt W b off d) (hu : Kept W W') : DeedAt W' b off d :=
  ⟨hu.cell h.c0 id, hu.cell h.c1 id, hu.cell h.c2 id, hu.cell h.c3 id, hu.cell h.c4 id, ⟨h.ds.1.kept hu, h.ds.2⟩, ⟨h.bs.1.kept hu, h.bs.2⟩⟩
def DeedsAt (W : World) (A : Option Addr) (l : List DeedV) : Prop := ∀ i (hi : i < l.length), ∃ b off, A = some ⟨b, off, none⟩ ∧ DeedAt W b (off + i * 5) l[i]
theorem DeedsAt.kept {W W' : World} {A : Option Addr} {l : List DeedV} (h : DeedsAt W A l) (hu : Kept W W') : DeedsAt W' A l := fun i hi => by
  obtain ⟨b, off, h1, h2⟩ := h i hi
  exact ⟨b, off, h1, h2.kept hu⟩
section
variable {H : Type} {enc : TypeId × Value → H} {W : World}
theorem deed_cells : Try.prog.cellsOf 134 = 5 := by kernel_rfl
theorem bool_cells : Try.prog.cellsOf 4 = 1 := by kernel_rfl
theorem ds_cells1 : Try.prog.cellsOf 41 = 1 := by kernel_rfl
set_option maxRecDepth 100000 in
theorem open_deeds {cs : List Value} (h : ReadsAs enc Try.prog W 132 cs) : ∃ A c l, cs = [.slice A (List.length l) c] ∧ DeedsAt W A l ∧ l.length ≤ 140737488351232 := by
  obtain ⟨A, n, c, rfl, hle, hmax, hb, hi⟩ := h.slice Try.underlying132 deed_cells (by omega)
  have hx : ∀ i, i < n → ∃ d : DeedV, ∃ b off, A = some ⟨b, off, none⟩ ∧ DeedAt W b (off + i * 5) d := by
    intro i hin
    obtain ⟨b, off, cs', hA, hl', hcell, hr⟩ := hi i hin
    obtain ⟨hl, hf⟩ := hr.struct Try.underlying134
    rw [deed_cells] at hl
    match cs', hl with
    | [c0, c1, c2, c3, c4], _ =>
      have e0 : ReadsAs enc Try.prog W 4 (([c0, c1, c2, c3, c4].drop 0).take (Try.prog.cellsOf 4)) := hf 0 _ rfl
      have e1 : ReadsAs enc Try.prog W 3 (([c0, c1, c2, c3, c4].drop 1).take (Try.prog.cellsOf 3)) := hf 1 _ rfl
      have e2 : ReadsAs enc Try.prog W 3 (([c0, c1, c2, c3, c4].drop 2).take (Try.prog.cellsOf 3)) := hf 2 _ rfl
      have e3 : ReadsAs enc Try.prog W 41 (([c0, c1, c2, c3, c4].drop 3).take (Try.prog.cellsOf 41)) := hf 3 _ rfl
      have e4 : ReadsAs enc Try.prog W 35 (([c0, c1, c2, c3, c4].drop 4).take (Try.prog.cellsOf 35)) := hf 4 _ rfl
      rw [bool_cells] at e0
      rw [int_cells] at e1 e2
      rw [ds_cells1] at e3
      rw [bs_cells] at e4
      obtain ⟨z, h0⟩ := e0.bool Try.underlying4
      obtain ⟨lv, h1, w1⟩ := e1.int Try.underlying3
      obtain ⟨pl, h2, w2⟩ := e2.int Try.underlying3
      obtain ⟨A3, k3, D, h3, hD, _⟩ := open_digs e3
      obtain ⟨y, R, h4, hy, hRl⟩ := open_bytes e4
      simp only [List.take_succ_cons, List.take_zero, List.drop_succ_cons, List.drop_zero, List.cons.injEq, and_true] at h0 h1 h2 h3 h4
      subst h0 h1 h2 h3 h4
      exact ⟨⟨z, lv, pl, ⟨A3, D.length, k3⟩, D, y, R⟩, b, off, hA, by simpa using hcell 0 (by omega), by simpa using hcell 1 (by omega), by simpa using hcell 2 (by omega), hcell 3 (by omega), by simpa using hcell 4 (by omega), ⟨hD, rfl⟩, ⟨hy, hRl⟩⟩
  obtain ⟨l, hl, hp⟩ := list_of n hx
  subst hl
  have hbb : Try.prog.bytesOf 134 = 72 := by kernel_rfl
  exact ⟨A, c, l, rfl, hp, by rw [hbb] at hb; unfold reachBytes at hb; omega⟩
end

theorem fetch_Done_any {w : World} {B f m1 m2 b r q n gs cs : Nat} {root : Dig} {O : Option (List Bytes)} {s : KM × BM} {hv ov : Value} (h : FetI w B f m1 m2 b r q n root O s gs cs hv ov) :
    Calls Try.prog 73 #[.pointer (some ⟨f, 0, none⟩)] w fun e W => ∃ A m c l, e = .returned (.tuple #[.slice A m c, .bool (askM n s).isNone]) ∧ m = l.length ∧ OwnLv W w.heap.size (.slice A m c) l ∧ (askM n s = none → secs l = bytesM n s.2) ∧ Kept w W := by
  cases ha : askM n s with
  | none =>
    refine (fetch_Done h ha).mono ?_
    rintro e W ⟨v, l, rfl, ho, hs, hu⟩
    obtain ⟨A, c, rfl⟩ := OwnRows.form ho.1
    rw [List.length_map] at ho ⊢
    exact ⟨A, _, c, l, rfl, rfl, ho, fun _ => hs, hu⟩
  | some x =>
    refine (fetch_Done_no h ha).mono ?_
    rintro e W ⟨rfl, hu⟩
    exact ⟨none, 0, 0, [], rfl, rfl, OwnLv.nil _ _, fun e => by simp at e, hu⟩
end Go.Proofs.Ytnncpjekcljfbaa
