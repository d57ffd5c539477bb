/- Arguments opened: bytes, lists of bytes, of digests, of what is set. -/
import Derived.Test.YtjimamgghkgdeaaTreeO
import Derived.Test.YtjimamgghkgdeaaOpen
namespace Go.Proofs.Ytjimamgghkgdeaa
open Go.ChangeShapes Go.WideShapes Go.ChangeAt Go.RowKit

theorem list_of {α : Type} {p : Nat → α → Prop} (n : Nat) (h : ∀ i, i < n → ∃ x, p i x) : ∃ l : List α, l.length = n ∧ ∀ i (hi : i < l.length), p i l[i] := by
  induction n with
  | zero => exact ⟨[], rfl, fun i hi => absurd hi (Nat.not_lt_zero i)⟩
  | succ n ih =>
    obtain ⟨l, hl, hp⟩ := ih fun i hi => h i (by omega)
    obtain ⟨x, hx⟩ := h n (by omega)
    refine ⟨l ++ [x], by simp [hl], fun i hi => ?_⟩
    by_cases h2 : i < l.length
    · rw [List.getElem_append_left h2]; exact hp i h2
    · have h3 : i = n := by simp at hi; omega
      subst h3
      have e : (l ++ [x])[i]'hi = x := by simp [hl]
      rw [e]; exact hx

theorem byte_of {n : Int} (h : (Lit.int .u8 n).wf = true) : ∃ c : UInt8, n = (c.toNat : Int) := by
  have h2 : 0 ≤ n ∧ n ≤ 255 := by simpa [Lit.wf, IntKind.min, IntKind.max, IntKind.signed, IntKind.bits] using h
  refine ⟨UInt8.ofNat n.toNat, ?_⟩
  have : (UInt8.ofNat n.toNat).toNat = n.toNat % 256 := by simp
  rw [this]
  omega

/-- a slice's cell, and the bytes that it tells -/
def LeafAt (W : World) (x : SlC) (R : Bytes) : Prop := Byt W x.A R ∧ x.n = R.length ∧ R.length ≤ x.c
theorem LeafAt.kept {W W' : World} {x : SlC} {R : Bytes} (h : LeafAt W x R) (hu : Kept W W') : LeafAt W' x R := ⟨h.1.kept hu, h.2⟩
theorem LeafAt.form {W : World} {x : SlC} {R : Bytes} (h : LeafAt W x R) : ∃ A c, x = ⟨A, R.length, c⟩ ∧ R.length ≤ c ∧ Byt W A R := by
  obtain ⟨A, n, c⟩ := x
  obtain ⟨h1, h2, h3⟩ := h
  simp only at h1 h2 h3
  subst h2
  exact ⟨A, c, rfl, h3, h1⟩
theorem SlC.v_eq (x : SlC) : x.v = .slice x.A x.n x.c := rfl

section
variable {H : Type} {enc : TypeId × Value → H} {W : World}
theorem u8_bytes : Try.prog.bytesOf 5 = 1 := by kernel_rfl
theorem bs_cells : Try.prog.cellsOf 32 = 1 := by kernel_rfl
theorem open_bytes {cs : List Value} (h : ReadsAs enc Try.prog W 32 cs) : ∃ x R, cs = [SlC.v x] ∧ LeafAt W x R ∧ R.length ≤ 140737488351232 := by
  obtain ⟨A, n, c, rfl, hle, hmax, hb, hi⟩ := h.slice Try.underlying32 u8_cells (by omega)
  have hx : ∀ i, i < n → ∃ u : UInt8, ∃ b off, A = some ⟨b, off, none⟩ ∧ W.cell? ⟨b, off + i, none⟩ = some (.int .u8 (u.toNat : Int)) := by
    intro i hin
    obtain ⟨b, off, cs', hA, hl', hcell, hr⟩ := hi i hin
    obtain ⟨x, rfl, wx⟩ := hr.int Try.underlying5
    obtain ⟨u, rfl⟩ := byte_of wx
    exact ⟨u, b, off, hA, by simpa using hcell 0 (by omega)⟩
  obtain ⟨R, hRl, hR⟩ := list_of n hx
  subst hRl
  refine ⟨⟨A, R.length, c⟩, R, rfl, ⟨?_, rfl, hle⟩, by rw [u8_bytes] at hb; unfold reachBytes at hb; omega⟩
  rcases Nat.eq_zero_or_pos R.length with h0 | h0
  · exact .inl (List.eq_nil_of_length_eq_zero h0)
  · obtain ⟨b, off, rfl, _⟩ := hR 0 h0
    refine .inr ⟨b, off, rfl, fun j v hv => ?_⟩
    rw [encB, List.getElem?_map] at hv
    obtain ⟨u, hu, rfl⟩ := Option.map_eq_some_iff.1 hv
    obtain ⟨hj, rfl⟩ := List.getElem?_eq_some_iff.1 hu
    obtain ⟨b', off', hA, hc⟩ := hR j hj
    simp only [Option.some.injEq, Addr.mk.injEq, and_true] at hA
    obtain ⟨rfl, rfl⟩ := hA
    exact hc

theorem open_dig {cs : List Value} (h : ReadsAs enc Try.prog W 40 cs) : ∃ d : Dig, cs = encB d.1 := by
  obtain ⟨hl, hi⟩ := h.array Try.underlying40 u8_cells
  rw [dig_cells] at hl
  have hx : ∀ i, i < 32 → ∃ u : UInt8, cs[i]? = some (.int .u8 (u.toNat : Int)) := by
    intro i hin
    obtain ⟨x, hc, wx⟩ := (hi i hin).int Try.underlying5
    obtain ⟨u, rfl⟩ := byte_of wx
    refine ⟨u, ?_⟩
    have := congrArg (·[0]?) hc
    simpa using this
  obtain ⟨R, hRl, hR⟩ := list_of 32 hx
  refine ⟨⟨R, hRl⟩, List.ext_getElem? fun j => ?_⟩
  by_cases hj : j < R.length
  · rw [hR j hj, encB, List.getElem?_map, List.getElem?_eq_getElem hj]; rfl
  · rw [List.getElem?_eq_none (by omega), List.getElem?_eq_none (by rw [encB_length]; show R.length ≤ j; omega)]

theorem open_digs {cs : List Value} (h : ReadsAs enc Try.prog W 35 cs) : ∃ A c D, cs = [.slice A (List.length D) c] ∧ Digs W A D ∧ D.length ≤ c := by
  obtain ⟨A, n, c, rfl, hle, hmax, hb, hi⟩ := h.slice Try.underlying35 dig_cells (by omega)
  have hx : ∀ i, i < n → ∃ d : Dig, ∃ b off, A = some ⟨b, off, none⟩ ∧ ∀ j, j < 32 → W.cell? ⟨b, off + i * 32 + j, none⟩ = (encB d.1)[j]? := by
    intro i hin
    obtain ⟨b, off, cs', hA, hl', hcell, hr⟩ := hi i hin
    obtain ⟨d, rfl⟩ := open_dig hr
    exact ⟨d, b, off, hA, hcell⟩
  obtain ⟨D, hDl, hD⟩ := list_of n hx
  subst hDl
  refine ⟨A, c, D, rfl, ?_, hle⟩
  rcases Nat.eq_zero_or_pos D.length with h0 | h0
  · left; rw [List.eq_nil_of_length_eq_zero h0]; rfl
  · obtain ⟨b, off, rfl, _⟩ := hD 0 h0
    refine .inr ⟨b, off, rfl, fun j v hv => ?_⟩
    have hj : j < D.length * 32 := by have := (List.getElem?_eq_some_iff.1 hv).1; rwa [encB_length, flatD_length] at this
    have hq : j / 32 < D.length := Nat.div_lt_of_lt_mul (by rwa [Nat.mul_comm] at hj)
    have hjm : j = (j / 32) * 32 + j % 32 := by omega
    have hmod : j % 32 < 32 := Nat.mod_lt _ (by omega)
    obtain ⟨b', off', hA, hc⟩ := hD (j / 32) hq
    simp only [Option.some.injEq, Addr.mk.injEq, and_true] at hA
    obtain ⟨rfl, rfl⟩ := hA
    have h2 := hc (j % 32) hmod
    rw [Nat.add_assoc, ← hjm] at h2
    rw [h2]
    rw [← rowsOf_dA, hjm, rowsOf_get dA_size D (j / 32) (j % 32) hq hmod] at hv
    simpa [dA] using hv

/-- a list of leaves in memory -/
def LeavesAt (W : World) (A : Option Addr) (l : List (SlC × Bytes)) : Prop := ∀ i (hi : i < l.length), ∃ b off, A = some ⟨b, off, none⟩ ∧ W.cell? ⟨b, off + i, none⟩ = some (SlC.v l[i].1) ∧ LeafAt W l[i].1 l[i].2 ∧ l[i].2.length ≤ 140737488351232
theorem LeavesAt.kept {W W' : World} {A : Option Addr} {l : List (SlC × Bytes)} (h : LeavesAt W A l) (hu : Kept W W') : LeavesAt W' A l := fun i hi => by
  obtain ⟨b, off, h1, h2, h3, h4⟩ := h i hi
  exact ⟨b, off, h1, hu.cell h2 id, h3.kept hu, h4⟩
theorem open_leaves {cs : List Value} (h : ReadsAs enc Try.prog W 61 cs) : ∃ A c l, cs = [.slice A (List.length l) c] ∧ LeavesAt W A l ∧ l.length ≤ c ∧ l.length ≤ 140737488351232 := by
  obtain ⟨A, n, c, rfl, hle, hmax, hb, hi⟩ := h.slice Try.underlying61 bs_cells (by omega)
  have hx : ∀ i, i < n → ∃ p : SlC × Bytes, ∃ b off, A = some ⟨b, off, none⟩ ∧ W.cell? ⟨b, off + i, none⟩ = some (SlC.v p.1) ∧ LeafAt W p.1 p.2 ∧ p.2.length ≤ 140737488351232 := by
    intro i hin
    obtain ⟨b, off, cs', hA, hl', hcell, hr⟩ := hi i hin
    obtain ⟨x, R, rfl, hx, hl⟩ := open_bytes hr
    exact ⟨(x, R), b, off, hA, by simpa using hcell 0 (by omega), hx, hl⟩
  obtain ⟨l, hl, hp⟩ := list_of n hx
  subst hl
  have hbb : Try.prog.bytesOf 32 = 24 := by kernel_rfl
  exact ⟨A, c, l, rfl, hp, hle, by rw [hbb] at hb; unfold reachBytes at hb; omega⟩

/-- what is set, in memory -/
def SetsAt (W : World) (A : Option Addr) (l : List (Int × SlC × Bytes)) : Prop := ∀ i (hi : i < l.length), ∃ b off, A = some ⟨b, off, none⟩ ∧ W.cell? ⟨b, off + i * 2, none⟩ = some (.int .i64 l[i].1) ∧ W.cell? ⟨b, off + i * 2 + 1, none⟩ = some (SlC.v l[i].2.1) ∧ LeafAt W l[i].2.1 l[i].2.2 ∧ (Lit.int .i64 l[i].1).wf = true ∧ l[i].2.2.length ≤ 140737488351232
theorem SetsAt.kept {W W' : World} {A : Option Addr} {l : List (Int × SlC × Bytes)} (h : SetsAt W A l) (hu : Kept W W') : SetsAt W' A l := fun i hi => by
  obtain ⟨b, off, h1, h2, h3, h4, h5⟩ := h i hi
  exact ⟨b, off, h1, hu.cell h2 id, hu.cell h3 id, h4.kept hu, h5⟩
theorem set_cells : Try.prog.cellsOf 34 = 2 := by kernel_rfl
theorem int_cells : Try.prog.cellsOf 3 = 1 := by kernel_rfl
set_option maxRecDepth 100000 in
theorem open_sets {cs : List Value} (h : ReadsAs enc Try.prog W 22 cs) : ∃ A c l, cs = [.slice A (List.length l) c] ∧ SetsAt W A l ∧ l.length ≤ c ∧ l.length ≤ 140737488351232 := by
  obtain ⟨A, n, c, rfl, hle, hmax, hb, hi⟩ := h.slice Try.underlying22 set_cells (by omega)
  have hx : ∀ i, i < n → ∃ p : Int × SlC × Bytes, ∃ b off, A = some ⟨b, off, none⟩ ∧ W.cell? ⟨b, off + i * 2, none⟩ = some (.int .i64 p.1) ∧ W.cell? ⟨b, off + i * 2 + 1, none⟩ = some (SlC.v p.2.1) ∧ LeafAt W p.2.1 p.2.2 ∧ (Lit.int .i64 p.1).wf = true ∧ p.2.2.length ≤ 140737488351232 := by
    intro i hin
    obtain ⟨b, off, cs', hA, hl', hcell, hr⟩ := hi i hin
    obtain ⟨hl, hf⟩ := hr.struct Try.underlying34
    rw [set_cells] at hl
    match cs', hl with
    | [c0, c1], _ =>
      have e0 := hf 0 _ rfl
      have e1 := hf 1 _ rfl
      try simp only [int_cells, bs_cells, List.drop_zero, List.drop_succ_cons, List.take_succ_cons, List.take_zero] at e0
      try simp only [int_cells, bs_cells, List.drop_zero, List.drop_succ_cons, List.take_succ_cons, List.take_zero] at e1
      obtain ⟨f, h0, w0⟩ := e0.int Try.underlying3
      obtain ⟨x, R, h1, hx, hRl⟩ := open_bytes e1
      obtain rfl := (List.cons.inj h0).1
      obtain rfl := (List.cons.inj h1).1
      exact ⟨(f, x, R), b, off, hA, by simpa using hcell 0 (by omega), by simpa using hcell 1 (by omega), hx, w0, hRl⟩
  obtain ⟨l, hl, hp⟩ := list_of n hx
  subst hl
  have hbb : Try.prog.bytesOf 34 = 32 := by kernel_rfl
  exact ⟨A, c, l, rfl, hp, hle, by rw [hbb] at hb; unfold reachBytes at hb; omega⟩
end

/-- a number of leaves, brought below a bound -/
theorem leaves_of (a : Int) (n : Int) (hn : 1 ≤ n) (hn' : n ≤ 1000) : ∃ m : Nat, 1 + a % n = (m : Int) ∧ 1 ≤ m ∧ (m : Int) ≤ n := by
  obtain ⟨h1, h2⟩ := mod_range a n hn
  exact ⟨(1 + a % n).toNat, by omega, by omega, by omega⟩

/-- a level that is there, in a row of its own -/
theorem own_form {W : World} {B : Nat} {v : Value} {l : List Dig} (h : OwnD W B v l) (hl : l ≠ []) : ∃ g c, v = .slice (some ⟨g, 0, none⟩) l.length c ∧ B ≤ g ∧ g < W.heap.size := by
  obtain ⟨g, c, rfl, h1, h2⟩ := World.ownsRow.form h (List.length_pos_iff.2 hl)
  exact ⟨g, c, rfl, h1, h2⟩
theorem levelsM_at {D : List Dig} {m n : Nat} (hD : D.length = n) (hm : m < depthM n) (h1 : 1 ≤ n) : ∃ l, (levelsM shaM D)[m]? = some l ∧ l.length ≤ n := by
  have hlt : m < (levelsM shaM D).length := by rw [levelsM_depth _ hD]; exact hm
  exact ⟨_, List.getElem?_eq_getElem hlt, levelsM_le n hD _ (List.getElem_mem hlt)⟩
theorem TreeAt.ne {W : World} {lo hi t b : Nat} {D : List Dig} (h : TreeAt W lo hi t b D) {m : Nat} {l : List Dig} (hm : (levelsM shaM D)[m]? = some l) : l ≠ [] := by
  obtain ⟨_, _, _, h⟩ := h
  obtain ⟨hk, rfl⟩ := List.getElem?_eq_some_iff.1 hm
  exact (h.lev.row m (by rw [h.len]; exact hk) hk).2

/-- the first bytes of a slice -/
theorem slice_u8_h (W : World) (A : Option Addr) (len cap h : Nat) (hh : h ≤ cap) : (Instr.sliceAt 32 (.slice A len cap) none (some (.int .i64 (h : Int))) none).run Try.prog W = .ok (.slice A h cap) W := by
  have ht : Try.prog.underlying 32 = some (.slice (Try.prog.elem 32)) := by rw [bs_elem]; exact Try.underlying32
  have := run_slice_h (P := Try.prog) (w := W) 32 A len cap ht .i64 (h : Int) (by omega) (by omega)
  rw [run_sliceAt_slice (h := ht), this, bs_elem, u8_sizeOf]
  simp only [Result.andThen, sliced, Int.toNat_natCast]
  cases A with
  | none => simp
  | some a =>
    have h0 : a.add 0 = a := by unfold Addr.add; split <;> simp_all
    simp [h0]
theorem min_num (n : Nat) : ∃ k : Nat, k = min n 100 ∧ (if (100 : Int) < (n : Int) then (100 : Int) else (n : Int)) = (k : Int) ∧ (if 100 < n then (100 : Int) else (n : Int)) = (k : Int) := by
  refine ⟨_, rfl, ?_, ?_⟩ <;> split <;> omega
theorem Byt.take {W : World} {A : Option Addr} {R : Bytes} (h : Byt W A R) (k : Nat) : Byt W A (R.take k) := by
  rcases h with rfl | ⟨b, off, rfl, h⟩
  · left; simp
  · refine .inr ⟨b, off, rfl, fun j v hv => h j v ?_⟩
    rw [encB_take] at hv
    have hj := (List.getElem?_eq_some_iff.1 hv).1
    rwa [List.getElem?_take_of_lt (by rw [List.length_take] at hj; omega)] at hv
end Go.Proofs.Ytjimamgghkgdeaa
