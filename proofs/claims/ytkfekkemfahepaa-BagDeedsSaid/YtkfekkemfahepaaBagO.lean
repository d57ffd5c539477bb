/- Arguments that are notes: one, or those of deeds. -/
import Derived.Test.YtkfekkemfahepaaBagM
namespace Go.Proofs.Ytkfekkemfahepaa
open Go.ChangeShapes Go.WideShapes Go.ChangeAt Go.RowKit Go.Deep
section
variable {H : Type} {enc : TypeId × Value → H} {P : Program} {W : World}
/-- a slice of bytes -/
theorem ReadsAs.bys {t e : TypeId} (ht : P.underlying t = some (.slice e)) (he : P.underlying e = some (.int .u8)) (hc : P.cellsOf e = 1) (hb : P.bytesOf e = 1) {cs : List Value} (h : ReadsAs enc P W t cs) :
    ∃ A R cap, cs = [.slice A R.length cap] ∧ R.length * 1 ≤ reachBytes ∧ (∀ x ∈ R, (Lit.int .u8 x).wf = true) ∧
      (R = [] ∨ ∃ b off, A = some ⟨b, off, none⟩ ∧ ∀ k (h : k < R.length), W.cell? ⟨b, off + k, none⟩ = some (.int .u8 R[k])) := by
  obtain ⟨A, len, cap, rfl, hl, _, hw, hi⟩ := h.slice ht hc (by omega)
  rw [hb] at hw
  have hx : ∀ i, i < len → ∃ x, (Lit.int .u8 x).wf = true ∧ ∃ b off, A = some ⟨b, off, none⟩ ∧ W.cell? ⟨b, off + i, none⟩ = some (.int .u8 x) := by
    intro i hil
    obtain ⟨b, off, cs', hA, hl', hcell, hr⟩ := hi i hil
    obtain ⟨x, rfl, wx⟩ := hr.int he
    have := hcell 0 (by omega)
    exact ⟨x, wx, b, off, hA, by simpa using this⟩
  let f : Nat → Int := fun i => if h : i < len then (hx i h).choose else 0
  have hf : ∀ i, i < len → (Lit.int .u8 (f i)).wf = true ∧ ∃ b off, A = some ⟨b, off, none⟩ ∧ W.cell? ⟨b, off + i, none⟩ = some (.int .u8 (f i)) := by
    intro i hil
    have := (hx i hil).choose_spec
    simp only [f, dif_pos hil]
    exact this
  refine ⟨A, (List.range len).map f, cap, by simp, by simpa using hw, ?_, ?_⟩
  · intro x hxm
    obtain ⟨i, him, rfl⟩ := List.mem_map.1 hxm
    exact (hf i (List.mem_range.1 him)).1
  · rcases Nat.eq_zero_or_pos len with h0 | h0
    · left; simp [h0]
    · right
      obtain ⟨_, b, off, hA, _⟩ := hf 0 h0
      refine ⟨b, off, hA, fun k hk => ?_⟩
      simp only [List.length_map, List.length_range] at hk
      obtain ⟨_, b', off', hA', hcell⟩ := hf k hk
      rw [hA] at hA'
      simp only [Option.some.injEq, Addr.mk.injEq, and_true] at hA'
      obtain ⟨rfl, rfl⟩ := hA'
      simpa using hcell
end

set_option maxRecDepth 100000 in
theorem open_env {H : Type} {enc : TypeId × Value → H} {W : World} {cs : List Value} (h : ReadsAs enc Try.prog W 29 cs) :
    ∃ (x : EnvC) (m : Note), cs = (envA x).toList ∧ NoteAt W x m ∧ (Lit.int .i64 m.1).wf = true ∧ (Lit.int .i64 m.2.1).wf = true := by
  obtain ⟨hl, hf⟩ := h.struct Try.underlying29
  have hc : Try.prog.cellsOf 29 = 3 := by kernel_rfl
  rw [hc] at hl
  match cs, hl with
  | [c0, c1, c2], _ =>
    have e0 := hf 0 _ rfl
    have e1 := hf 1 _ rfl
    have e2 := hf 2 _ rfl
    have ri : Try.prog.cellsOf 27 = 1 := by kernel_rfl
    try simp only [int_cells, ri, List.drop_zero, List.drop_succ_cons, List.take_succ_cons, List.take_zero] at e0
    try simp only [int_cells, ri, List.drop_zero, List.drop_succ_cons, List.take_succ_cons, List.take_zero] at e1
    try simp only [int_cells, ri, List.drop_zero, List.drop_succ_cons, List.take_succ_cons, List.take_zero] at e2
    obtain ⟨f, h0, w0⟩ := e0.int Try.underlying3
    obtain ⟨t, h1, w1⟩ := e1.int Try.underlying3
    obtain ⟨A, R, cap, h2, hlen, _, hR⟩ := e2.bys Try.underlying27 Try.underlying5 u8_cells (by kernel_rfl)
    obtain rfl := (List.cons.inj h0).1
    obtain rfl := (List.cons.inj h1).1
    obtain rfl := (List.cons.inj h2).1
    exact ⟨⟨f, t, A, R.length, cap⟩, (f, t, R), rfl, ⟨rfl, rfl, rfl, hR, by unfold reachBytes at hlen; show R.length ≤ _; omega⟩, w0, w1⟩
end Go.Proofs.Ytkfekkemfahepaa
