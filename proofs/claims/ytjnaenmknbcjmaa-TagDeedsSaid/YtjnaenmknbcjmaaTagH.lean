/- A deed as cells; a pair of ints as an argument. -/
import Derived.Test.YtjnaenmknbcjmaaTagG
namespace Go.Proofs.Ytjnaenmknbcjmaa
open Go.ChangeShapes Go.WideShapes Go.ChangeAt Go.RowKit

/-- a deed's cells -/
def deedA (x : DeedV) : Array Value := #[.int .i64 x.k, .int .i64 x.f, .int .i64 x.t, .slice x.A x.R.length x.c, .int .u8 x.d, .int .i64 x.af, .int .i64 x.at_]
@[go_sem] theorem deedA_size (x : DeedV) : (deedA x).size = 7 := by simp [deedA]
@[go_sem] theorem deedA_one (x : DeedV) : oneB (deedA x) = true := by unfold deedA oneB; exact (by rfl : _ = _)
def deedZ : DeedV := ⟨0, 0, 0, none, [], 0, 0, 0, 0⟩
@[go_sem ↓] theorem exec_alloc_deed (ρ : Operand → Value) (dst : Option Tmp) (ty : TypeId) (pos : String) (after : Array Edge) (guard : Option (Nat × Bool)) :
    execOp ρ ⟨dst, .alloc 32, ty, pos, after, guard⟩ = allocRow 32 := rfl
@[go_sem] theorem run_alloc_deed (W : World) : (allocRow 32).run Try.prog W = .ok (.value (.pointer (some ⟨W.heap.size, 0, none⟩))) (W.alloc (.cells (deedA deedZ) 32)) :=
  run_allocRow _ (.agg (deedA deedZ)) (by kernel_rfl) W
section
variable (x : DeedV)
@[go_sem] theorem deedA_0 (h : 0 < (deedA x).size) : (deedA x)[0]'h = .int .i64 x.k := by unfold deedA; rfl
@[go_sem] theorem deedA_1 (h : 1 < (deedA x).size) : (deedA x)[1]'h = .int .i64 x.f := by unfold deedA; rfl
@[go_sem] theorem deedA_2 (h : 2 < (deedA x).size) : (deedA x)[2]'h = .int .i64 x.t := by unfold deedA; rfl
@[go_sem] theorem deedA_3 (h : 3 < (deedA x).size) : (deedA x)[3]'h = .slice x.A x.R.length x.c := by unfold deedA; rfl
@[go_sem] theorem deedA_4 (h : 4 < (deedA x).size) : (deedA x)[4]'h = .int .u8 x.d := by unfold deedA; rfl
end
theorem DeedAt.cells {W : World} {b off : Nat} {x : DeedV} (h : DeedAt W b off x) : ∀ j v, (deedA x)[j]? = some v → W.cell? ((⟨b, off, none⟩ : Addr).add j) = some v := by
  intro j v hv
  have hj : j < 7 := (Array.getElem?_eq_some_iff.1 hv).1
  rw [add_none]
  unfold deedA at hv
  match j, hj with
  | 0, _ => simp at hv; subst hv; exact h.k
  | 1, _ => simp at hv; subst hv; exact h.f
  | 2, _ => simp at hv; subst hv; exact h.t
  | 3, _ => simp at hv; subst hv; exact h.r
  | 4, _ => simp at hv; subst hv; exact h.d
  | 5, _ => simp at hv; subst hv; exact h.af
  | 6, _ => simp at hv; subst hv; exact h.at_
theorem DeedAt.s1 {W : World} {b off : Nat} {x : DeedV} (h : DeedAt W b off x) : segB W ⟨b, off, none⟩ 7 = true := segB_of h.cells rfl
theorem DeedAt.s2 {W : World} {b off : Nat} {x : DeedV} (h : DeedAt W b off x) : segV W ⟨b, off, none⟩ 7 = deedA x := segV_of h.cells rfl
/-- a deed's own copy -/
theorem DeedAt.own {W : World} {g t : Nat} {x : DeedV} (h : W.heap[g]? = some (.cells (deedA x) t (0, 0))) (hR : Ints W x.A x.R) : DeedAt W g 0 x := by
  refine ⟨?_, ?_, ?_, ?_, ?_, ?_, ?_, hR⟩ <;> (rw [cell_of_row W g _ _ _ _ h]; rfl)

set_option maxRecDepth 100000 in
theorem open_pair {H : Type} {enc : TypeId × Value → H} {W : World} {cs : Array Value} (h : ReadsAs enc Try.prog W 43 (Value.agg cs).cells.toList) :
    ∃ a b, cs = #[.int .i64 a, .int .i64 b] ∧ (Lit.int .i64 a).wf = true ∧ (Lit.int .i64 b).wf = true := by
  obtain ⟨hl, hi⟩ := h.array Try.underlying43 int_cells
  have hc : Try.prog.cellsOf 43 = 2 := by kernel_rfl
  rw [hc] at hl
  obtain ⟨l⟩ := cs
  match l, hl with
  | [x, y], _ =>
    obtain ⟨a, ha, wa⟩ := (hi 0 (by omega)).int Try.underlying3
    obtain ⟨b, hb, wb⟩ := (hi 1 (by omega)).int Try.underlying3
    obtain rfl := (List.cons.inj ha).1
    obtain rfl := (List.cons.inj hb).1
    exact ⟨_, _, rfl, wa, wb⟩

end Go.Proofs.Ytjnaenmknbcjmaa
