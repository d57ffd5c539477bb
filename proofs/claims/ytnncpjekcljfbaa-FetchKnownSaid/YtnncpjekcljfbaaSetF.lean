/- The texts of this hand-in, merged: ProJ ProK ProL ProM ProN. -/
import Derived.Test.YtnncpjekcljfbaaSetE
/- The statements' frame: what all share. -/
namespace Go.Proofs.Ytnncpjekcljfbaa
open Go.RowKit

section
variable {w0 w W W' : World} {b r q : Nat} {L : List Bytes}
theorem Ink0.keeps (h : Ink0 w W b r q L) (hu : Upd (Book3 b r q) W W') : Kept w W' := h.upd.then hu fun k hk e => by have := h.far k e; omega
theorem Ink0.back (h : Ink0 w W b r q L) (hu : Kept w0 w) : Ink0 w0 W b r q L := ⟨h.book, hu.then h.upd (fun _ _ h => h), fun k hk => Nat.le_trans hu.size (h.far k hk)⟩
end
theorem bytesL_at {l : List (SlC × Bytes)} {j : Nat} (h : j < (bytesL l).length) : ∃ (h2 : j < l.length), (bytesL l)[j] = l[j].2.take 100 := by
  have h1 : j < l.length ∧ j < 40 := by rw [bytesL_length] at h; omega
  refine ⟨h1.1, ?_⟩
  have := bytesL_get h1.1 h1.2
  rw [List.getElem?_eq_getElem h] at this
  exact Option.some.inj this
/-- a leaf's cell, whatever the book notes -/
theorem leaf_cell {w : World} {A : Option Addr} {l : List (SlC × Bytes)} (h : LeavesAt w A l) {j : Nat} (hj : j < l.length) :
    ∃ g o A1 c1, A = some ⟨g, o, none⟩ ∧ l[j].2.length ≤ c1 ∧ l[j].2.length ≤ 140737488351232 ∧ ∀ W, Kept w W → W.cell? ⟨g, o + j, none⟩ = some (.slice A1 l[j].2.length c1) ∧ Byt W A1 l[j].2 := by
  obtain ⟨g, o, hA, hc, hR, hm⟩ := h j hj
  obtain ⟨A1, c1, hx, hcap, hb⟩ := hR.form
  refine ⟨g, o, A1, c1, hA, hcap, hm, fun W hW => ⟨?_, hb.kept hW⟩⟩
  rw [hx] at hc
  exact hW.cell hc id
end Go.Proofs.Ytnncpjekcljfbaa
/- The layer's functions, of all arguments; clashes; bytes compared. -/
namespace Go.Proofs.Ytnncpjekcljfbaa
open Go.RowKit

theorem book_Clash {w : World} {b r q : Nat} {L : List Bytes} (h : BookL w b r q L) :
    Calls Try.prog 57 #[.pointer (some ⟨b, 0, none⟩)] w fun e W => ∃ cb, e = .returned (.bool cb) ∧ (cb = false → ∀ x ∈ L, ∀ y ∈ L, shaM x = shaM y → x = y) ∧ Kept w W := by
  obtain ⟨I, M, n, h⟩ := h
  refine (ink_Clash h).mono ?_
  rintro e W ⟨rfl, hu⟩
  exact ⟨_, rfl, fun hc x hx y hy he => h.inv.inj hc hx hy he, hu⟩
theorem ref_EqBytes_any {w : World} {A A2 : Option Addr} {R R2 : Bytes} (c c2 : Nat) (h1 : Byt w A R) (h2 : Byt w A2 R2) (l1 : R.length ≤ 100000) (_l2 : R2.length ≤ 140737488351232) :
    Calls Try.prog 27 #[.slice A R.length c, .slice A2 R2.length c2] w fun e W => e = .returned (.bool (decide (R = R2))) ∧ Kept w W := by
  by_cases hl : R.length = R2.length
  · exact ref_EqBytes c c2 h1 h2 l1 (by omega)
  · rw [show decide (R = R2) = false from decide_eq_false (fun e => hl (by rw [e]))]
    have hn : ¬ ((R.length : Int) = (R2.length : Int)) := by omega
    have hn2 : ((R.length : Int) == (R2.length : Int)) = false := by simp; omega
    clear h1 h2 l1 hl
    generalize R.length = n at *
    generalize R2.length = m at *
    go_enter Try.func27, Try.ntmps27
    go_wp2
    go_ret
    exact ⟨rfl, Upd.refl _ _⟩

section
variable {w : World} {b r q : Nat} {L : List Bytes} {A : Option Addr}
theorem tree_Up_any (h : BookL w b r q L) {D : List Dig} (c : Nat) (hD : Digs w A D) :
    Calls Try.prog 41 #[.pointer (some ⟨b, 0, none⟩), .slice A D.length c] w fun e W => ∃ y z, e = .returned (.tuple #[.agg (dA y), .int .i64 z]) ∧ (∃ L', BookL W b r q L' ∧ (∀ x ∈ L, x ∈ L') ∧ ((1 ≤ D.length ∧ D.length ≤ 4 ∧ y = upM shaM D ∧ z = 0 ∧ upIn D ∈ L') ∨ (¬ (1 ≤ D.length ∧ D.length ≤ 4) ∧ y = dig0 ∧ z = 2))) ∧ Upd (Book3 b r q) w W := by
  by_cases hn : 1 ≤ D.length ∧ D.length ≤ 4
  · refine (tree_Up h c hD hn.1 hn.2).mono ?_
    rintro e W ⟨rfl, hb, hu⟩
    exact ⟨_, _, rfl, ⟨_, hb, fun x hx => mem_noteM.2 (.inl hx), .inl ⟨hn.1, hn.2, rfl, rfl, mem_noteM.2 (.inr rfl)⟩⟩, hu⟩
  · refine (tree_Up_no c (by omega)).mono ?_
    rintro e W ⟨rfl, hu⟩
    exact ⟨_, _, rfl, ⟨_, h.kept hu, fun _ hx => hx, .inr ⟨hn, rfl, rfl⟩⟩, hu.to⟩
theorem tree_Leaf_any (h : BookL w b r q L) {R : Bytes} (c : Nat) (hR : Byt w A R) :
    Calls Try.prog 43 #[.pointer (some ⟨b, 0, none⟩), .slice A R.length c] w fun e W => ∃ y z, e = .returned (.tuple #[.agg (dA y), .int .i64 z]) ∧ (∃ L', BookL W b r q L' ∧ (∀ x ∈ L, x ∈ L') ∧ ((R.length < 65536 ∧ y = leafM shaM R ∧ z = 0 ∧ leafIn R ∈ L') ∨ (65536 ≤ R.length ∧ y = dig0 ∧ z = 5))) ∧ Upd (Book3 b r q) w W := by
  by_cases hn : R.length < 65536
  · refine (tree_Leaf h c hR hn).mono ?_
    rintro e W ⟨rfl, hb, hu⟩
    exact ⟨_, _, rfl, ⟨_, hb, fun x hx => mem_noteM.2 (.inl hx), .inl ⟨hn, rfl, rfl, mem_noteM.2 (.inr rfl)⟩⟩, hu⟩
  · refine (tree_Leaf_long c (by omega)).mono ?_
    rintro e W ⟨rfl, hu⟩
    exact ⟨_, _, rfl, ⟨_, h.kept hu, fun _ hx => hx, .inr ⟨by omega, rfl, rfl⟩⟩, hu.to⟩
theorem proof_Fits_any (h : BookL w b r q L) {D : List Dig} (c : Nat) (hD : Digs w A D) (d : Dig) :
    Calls Try.prog 58 #[.pointer (some ⟨b, 0, none⟩), .agg (dA d), .slice A D.length c] w fun e W => ∃ z, e = .returned (.int .i64 z) ∧ (∃ L', BookL W b r q L' ∧ (∀ x ∈ L, x ∈ L') ∧ ((1 ≤ D.length ∧ D.length ≤ 4 ∧ z = (if upM shaM D = d then 0 else 100) ∧ upIn D ∈ L') ∨ (¬ (1 ≤ D.length ∧ D.length ≤ 4) ∧ z = 2))) ∧ Upd (Book3 b r q) w W := by
  by_cases hn : 1 ≤ D.length ∧ D.length ≤ 4
  · refine (proof_Fits h c hD hn.1 hn.2 d).mono ?_
    rintro e W ⟨rfl, hb, hu⟩
    exact ⟨_, rfl, ⟨_, hb, fun x hx => mem_noteM.2 (.inl hx), .inl ⟨hn.1, hn.2, rfl, mem_noteM.2 (.inr rfl)⟩⟩, hu⟩
  · refine (proof_Fits_no d dig0 (z := 2) (by decide) (fun _ _ => tree_Up_no c (by omega))).mono ?_
    rintro e W ⟨rfl, hu⟩
    exact ⟨_, rfl, ⟨_, h.kept hu, fun _ hx => hx, .inr ⟨hn, rfl⟩⟩, hu.to⟩
theorem proof_LeafFits_any (h : BookL w b r q L) {R : Bytes} (c : Nat) (hR : Byt w A R) (d : Dig) :
    Calls Try.prog 60 #[.pointer (some ⟨b, 0, none⟩), .agg (dA d), .slice A R.length c] w fun e W => ∃ z, e = .returned (.int .i64 z) ∧ (∃ L', BookL W b r q L' ∧ (∀ x ∈ L, x ∈ L') ∧ ((R.length < 65536 ∧ z = (if leafM shaM R = d then 0 else 100) ∧ leafIn R ∈ L') ∨ (65536 ≤ R.length ∧ z = 5))) ∧ Upd (Book3 b r q) w W := by
  by_cases hn : R.length < 65536
  · refine (proof_LeafFits h c hR hn d).mono ?_
    rintro e W ⟨rfl, hb, hu⟩
    exact ⟨_, rfl, ⟨_, hb, fun x hx => mem_noteM.2 (.inl hx), .inl ⟨hn, rfl, mem_noteM.2 (.inr rfl)⟩⟩, hu⟩
  · refine (proof_LeafFits_no d dig0 (z := 5) (by decide) (fun _ _ => tree_Leaf_long c (by omega))).mono ?_
    rintro e W ⟨rfl, hu⟩
    exact ⟨_, rfl, ⟨_, h.kept hu, fun _ hx => hx, .inr ⟨by omega, rfl⟩⟩, hu.to⟩
/-- Check, of all claims -/
theorem proof_Check_any (h : BookL w b r q L) (root : Dig) (n : Nat) (hn1 : 1 ≤ n) (hn : n ≤ 1024) (i : Int) {R : Bytes} (c : Nat) (hR : Byt w A R)
    {PA : Option Addr} {P : List (SlC × List Dig)} (pc : Nat) (hpc : P.length ≤ pc) (hP : ∀ W, Upd (Book3 b r q) w W → ProofAt W PA P) (hPl : P.length ≤ 140737488351232) (P0 : List (List Dig)) (hP0 : P.map (·.2) = P0) :
    Calls Try.prog 53 #[.pointer (some ⟨b, 0, none⟩), .agg (dA root), .int .i64 n, .int .i64 i, .slice A R.length c, .slice PA P.length pc] w fun e W => ∃ z, e = .returned (.int .i64 z) ∧
      (∃ L', BookL W b r q L' ∧ (∀ x ∈ L, x ∈ L') ∧ ((∃ j : Nat, i = j ∧ j < n ∧ R.length < 65536 ∧ z = (if climb n j (leafM shaM R) P0 = some root then 0 else 100) ∧ leafIn R ∈ L' ∧ ∀ x ∈ climbIn n j (leafM shaM R) P0, x ∈ L') ∨ ((i < 0 ∨ (n : Int) ≤ i) ∧ z = 9) ∨ (0 ≤ i ∧ i < n ∧ 65536 ≤ R.length ∧ z = 5))) ∧ Upd (Book3 b r q) w W := by
  by_cases hi : i < 0 ∨ (n : Int) ≤ i
  · refine (proof_Check_range root n i _ _ (by omega) (by omega) hi).mono ?_
    rintro e W ⟨rfl, hu⟩
    exact ⟨_, rfl, ⟨_, h.kept hu, fun _ hx => hx, .inr (.inl ⟨hi, rfl⟩)⟩, hu.to⟩
  · by_cases hl : R.length < 65536
    · obtain ⟨j, rfl⟩ : ∃ j : Nat, i = j := ⟨i.toNat, by omega⟩
      refine (proof_Check h root n j hn (by omega) c hR hl pc hpc hP hPl P0 hP0).mono ?_
      rintro e W ⟨rfl, hb, hu⟩
      exact ⟨_, rfl, ⟨_, hb, noted_more, .inl ⟨j, rfl, by omega, hl, rfl, mem_notesM.2 (.inl (mem_noteM.2 (.inr rfl))), fun x hx => mem_notesM.2 (.inr hx)⟩⟩, hu⟩
    · refine (proof_Check_no root dig0 n i _ _ (by omega) (by omega) (by omega) (by omega) (z := 5) (by decide) (fun _ _ => tree_Leaf_long c (by omega))).mono ?_
      rintro e W ⟨rfl, hu⟩
      exact ⟨_, rfl, ⟨_, h.kept hu, fun _ hx => hx, .inr (.inr ⟨by omega, by omega, by omega, rfl⟩)⟩, hu.to⟩
end
end Go.Proofs.Ytnncpjekcljfbaa
/- A claim in memory. -/
namespace Go.Proofs.Ytnncpjekcljfbaa
open Go.ChangeShapes Go.WideShapes Go.ChangeAt Go.RowKit

/-- a claim's cells -/
def clA (d : Dig) (lv lf : Int) (x y : SlC) : Array Value := (encB d.1 ++ [.int .i64 lv, .int .i64 lf, x.v, y.v]).toArray
@[simp, go_sem] theorem clA_size (d : Dig) (lv lf : Int) (x y : SlC) : (clA d lv lf x y).size = 36 := by simp [clA, encB_length, d.2]
@[simp, go_sem] theorem clA_one (d : Dig) (lv lf : Int) (x y : SlC) : oneB (clA d lv lf x y) = true := by
  have h1 := dA_one d
  simp only [oneB, dA, clA, List.all_append, Bool.and_eq_true] at *
  first
    | exact ⟨h1, by rfl⟩
    | (refine ⟨?_, by rfl⟩; simpa using h1)
/-- a claim in memory -/
structure ClAt (W : World) (g : Nat) (d : Dig) (lv lf : Int) (x y : SlC) : Prop where
  blk : Blk W g 72 (encB d.1 ++ [.int .i64 lv, .int .i64 lf, x.v, y.v])
section
variable {W W' : World} {g : Nat} {d : Dig} {lv lf : Int} {x y : SlC}
theorem ClAt.kept (h : ClAt W g d lv lf x y) (hu : Kept W W') : ClAt W' g d lv lf x y := ⟨h.blk.kept hu⟩
theorem ClAt.book (h : ClAt W g d lv lf x y) {b r q : Nat} {L : List Bytes} (hb : BookL W b r q L) (hu : Upd (Book3 b r q) W W') : ClAt W' g d lv lf x y := ⟨h.blk.upd hu (hb.not h.blk (by decide))⟩
theorem ClAt.new (W : World) (d : Dig) (lv lf : Int) (x y : SlC) : ClAt (W.alloc (.cells (clA d lv lf x y) 72)) W.heap.size d lv lf x y := ⟨Blk.new W _ _⟩
theorem ClAt.c32 (h : ClAt W g d lv lf x y) : W.cell? ⟨g, 32, none⟩ = some (.int .i64 lv) := h.blk.cell (k := 32) (by rw [List.getElem?_append_right (by rw [encB_length, d.2]; omega), encB_length, d.2]; rfl)
theorem ClAt.c33 (h : ClAt W g d lv lf x y) : W.cell? ⟨g, 33, none⟩ = some (.int .i64 lf) := h.blk.cell (k := 33) (by rw [List.getElem?_append_right (by rw [encB_length, d.2]; omega), encB_length, d.2]; rfl)
theorem ClAt.c34 (h : ClAt W g d lv lf x y) : W.cell? ⟨g, 34, none⟩ = some (.slice x.A x.n x.c) := h.blk.cell (k := 34) (by rw [List.getElem?_append_right (by rw [encB_length, d.2]; omega), encB_length, d.2]; rfl)
theorem ClAt.c35 (h : ClAt W g d lv lf x y) : W.cell? ⟨g, 35, none⟩ = some (.slice y.A y.n y.c) := h.blk.cell (k := 35) (by rw [List.getElem?_append_right (by rw [encB_length, d.2]; omega), encB_length, d.2]; rfl)
theorem ClAt.seg (h : ClAt W g d lv lf x y) : segB W ⟨g, 0, none⟩ 32 = true ∧ segV W ⟨g, 0, none⟩ 32 = dA d :=
  h.blk.seg 0 32 (encB d.1) (by rw [encB_length, d.2]) (fun j hj => by rw [Nat.zero_add, List.getElem?_append_left (by rw [encB_length, d.2]; exact hj)])
end
section
variable {H : Type} {enc : TypeId × Value → H} {W : World}
theorem claim_cells : Try.prog.cellsOf 72 = 36 := by kernel_rfl
theorem dss_cells : Try.prog.cellsOf 63 = 1 := by kernel_rfl
set_option maxRecDepth 100000 in
theorem open_claim {cs : List Value} (h : ReadsAs enc Try.prog W 72 cs) : ∃ (d : Dig) (lv lf : Int) (x : SlC) (R : Bytes) (PA : Option Addr) (pc : Nat) (P : List (SlC × List Dig)), cs = encB d.1 ++ [.int .i64 lv, .int .i64 lf, SlC.v x, SlC.v ⟨PA, P.length, pc⟩] ∧ (Lit.int .i64 lv).wf = true ∧ (Lit.int .i64 lf).wf = true ∧ LeafAt W x R ∧ R.length ≤ 140737488351232 ∧ ProofAt W PA P ∧ P.length ≤ pc ∧ P.length ≤ 140737488351232 := by
  obtain ⟨hl, hf⟩ := h.struct Try.underlying72
  rw [claim_cells] at hl
  have e0 : ReadsAs enc Try.prog W 46 ((cs.drop 0).take (Try.prog.cellsOf 46)) := hf 0 _ rfl
  have e1 : ReadsAs enc Try.prog W 3 ((cs.drop 32).take (Try.prog.cellsOf 3)) := hf 1 _ rfl
  have e2 : ReadsAs enc Try.prog W 3 ((cs.drop 33).take (Try.prog.cellsOf 3)) := hf 2 _ rfl
  have e3 : ReadsAs enc Try.prog W 35 ((cs.drop 34).take (Try.prog.cellsOf 35)) := hf 3 _ rfl
  have e4 : ReadsAs enc Try.prog W 63 ((cs.drop 35).take (Try.prog.cellsOf 63)) := hf 4 _ rfl
  rw [dig_cells, List.drop_zero] at e0
  rw [int_cells] at e1 e2
  rw [bs_cells] at e3
  rw [dss_cells] at e4
  have hsp : cs = cs.take 32 ++ cs.drop 32 := (List.take_append_drop 32 cs).symm
  have h33 : cs.drop 33 = (cs.drop 32).drop 1 := by rw [List.drop_drop]
  have h34 : cs.drop 34 = (cs.drop 32).drop 2 := by rw [List.drop_drop]
  have h35 : cs.drop 35 = (cs.drop 32).drop 3 := by rw [List.drop_drop]
  rw [h33] at e2
  rw [h34] at e3
  rw [h35] at e4
  have hl4 : (cs.drop 32).length = 4 := by rw [List.length_drop, hl]
  obtain ⟨d, hd⟩ := open_dig e0
  rw [hsp, hd]
  generalize cs.drop 32 = tl at *
  match tl, hl4 with
  | [c0, c1, c2, c3], _ =>
    obtain ⟨lv, h1, w1⟩ := e1.int Try.underlying3
    obtain ⟨lf, h2, w2⟩ := e2.int Try.underlying3
    obtain ⟨x, R, h3, hx, hRl⟩ := open_bytes e3
    obtain ⟨PA, pc, P, h4, hP, hpc, hPl⟩ := open_proof e4
    simp only [List.take_succ_cons, List.take_zero, List.drop_succ_cons, List.drop_zero, List.cons.injEq, and_true] at h1 h2 h3 h4
    subst h1 h2 h3 h4
    exact ⟨d, lv, lf, x, R, PA, pc, P, rfl, w1, w2, hx, hRl, hP, hpc, hPl⟩
end
end Go.Proofs.Ytnncpjekcljfbaa
/- Digests appended; a proof copied. -/
namespace Go.Proofs.Ytnncpjekcljfbaa
open Go.RowKit

theorem wpList_append_digs {ops : Array Oper} {rest : List Oper} {o : Oper} {a : Act} {Q : Exit → Act → World → Prop} {W : World} {B : Nat} {v : Value} {R0 R : List Dig} (hgd : o.guard = none) (s x : Operand)
    (ho : o.op = .call { callee := .builtin .append, args := #[s, x], argTypes := #[41, 41] }) (hs : a.eval s = v) (hv : OwnD W B v R0) (A : Option Addr) (c : Nat) (hx : a.eval x = .slice A R.length c) (hR : Digs W A R)
    (hlen : (R0.length + R.length) * 32 ≤ 140737488355328) (hB : B ≤ W.heap.size)
    (hk : ∀ v' W', OwnD W' B v' (R0 ++ R) → Upd (fun k => v.ownBlock = some k) W W' → wpList Try.prog ops Q rest (a.put o.dst v') W') : wpList Try.prog ops Q (o :: rest) a W := by
  obtain ⟨i0, hi, h2⟩ := Option.map_eq_some_iff.1 dig_info3
  simp only [Prod.mk.injEq] at h2
  obtain ⟨hz0, hz1, hz2⟩ := h2
  obtain ⟨A0, c0, rfl, hc0, _⟩ := hv.digs
  by_cases h0 : R = []
  · subst h0
    refine wpList_plain hgd fun K hK => ?_
    have hsrc : Src Try.prog i0.size 41 (.slice A 0 c) 0 [] W := by
      cases A with
      | none => exact Src.ofNil W Try.underlying41 c
      | some ad => exact Src.ofSlice W Try.underlying41 ad 0 c [] (by simp) (fun j u hu => by simp at hu) (fun u hu => by cases hu)
    have hr := run_append_nothing W 41 41 o.type 46 i0 Try.underlying41 hi A0 R0.length c0 hc0 _ hsrc
    unfold Oper.wp execOp
    have hx' : a.eval x = .slice A 0 c := hx
    simp only [ho, resolve, invoke, builtin, Sem.run_bind, Sem.run_pure, Result.andThen_ok, List.map_toArray, List.map_cons, List.map_nil, hs, hx', hr]
    exact hK _ _ (hk _ _ (by rw [List.append_nil]; exact hv) (Upd.refl _ _))
  · have hpos : 0 < R.length := List.length_pos_iff.2 h0
    rcases hR with hR | ⟨b, off, rfl, hc⟩
    · have := flatD_length R
      rw [hR] at this; simp at this; omega
    · have hv' := hv
      unfold OwnD OwnRows at hv'
      rw [rowsOf_dA] at hv'
      refine wpList_append_own W hgd s x 41 ho B 46 i0 (.agg (dA dig0)) 32 32 Try.underlying41 hi hz0 hz1 hz2 (by simp [Value.cells]) (by decide) _ R0.length (vsD R0) hs hv' ⟨b, off, none⟩ R.length c (vsD R) hx (by rw [vsD_length]) (fun j u hu => by rw [add_none]; exact hc j u hu) (encB_one _) (by unfold maxLen; omega) (by omega) hB ?_
      intro v' W' hown hgr hnil
      refine hk v' W' ?_ ((Upd.of_grown hgr).mono fun k _ h => h.symm)
      unfold OwnD OwnRows
      rw [rowsOf_dA]
      show W'.ownsRow _ _ _ _ _ (vsD (R0 ++ R))
      rw [List.length_append, vsD_append]
      exact hown

/-- a proof in rows of the call's own, each in one of its own -/
def OwnQ (W : World) (B : Nat) (v : Value) (xs : List SlC) (P : List (List Dig)) : Prop :=
  OwnRows slA 1 W B 41 v xs ∧ xs.length = P.length ∧ (∀ i (h : i < xs.length) (h' : i < P.length), OwnD W B xs[i].v P[i]) ∧ ∀ i j (hi : i < xs.length) (hj : j < xs.length), i ≠ j → ∀ k, xs[i].v.ownBlock = some k → xs[j].v.ownBlock ≠ some k
theorem OwnQ.own {W : World} {B : Nat} {v : Value} {xs : List SlC} {P : List (List Dig)} (h : OwnQ W B v xs P) : OwnP W B v P := ⟨xs, h.1, h.2.1, h.2.2.1⟩
theorem OwnQ.upd {W W' : World} {B : Nat} {v : Value} {xs : List SlC} {P : List (List Dig)} {S : Nat → Prop} (h : OwnQ W B v xs P) (hu : Upd S W W') (hs : ∀ k, B ≤ k → (∃ cs t', W.heap[k]? = some (.cells cs t' (0, 0)) ∧ t' ≠ 125) → ¬ S k) : OwnQ W' B v xs P := by
  obtain ⟨h1, h2, h3, h4⟩ := h
  refine ⟨OwnRows.upd h1 hu (fun k e => ?_), h2, fun i hi hi' => OwnRows.upd (h3 i hi hi') hu (fun k e => ?_), h4⟩
  · obtain ⟨cur, hc⟩ := own_cells h1 e
    exact hs k (World.ownsRow.lt h1 k e).1 ⟨_, _, hc, by decide⟩
  · obtain ⟨cur, hc⟩ := own_cells (h3 i hi hi') e
    exact hs k (World.ownsRow.lt (h3 i hi hi') k e).1 ⟨_, _, hc, by decide⟩
theorem OwnQ.kept {W W' : World} {B : Nat} {v : Value} {xs : List SlC} {P : List (List Dig)} (h : OwnQ W B v xs P) (hu : Kept W W') : OwnQ W' B v xs P := h.upd hu fun _ _ _ => id

set_option maxHeartbeats 1600000 in
set_option maxRecDepth 20000 in
theorem ref_Copy {w : World} {A : Option Addr} {P : List (SlC × List Dig)} (c : Nat) (hP : ProofAt w A P) (hPl : P.length * 24 ≤ 140737488355328) (hPd : ∀ p ∈ P, p.2.length * 32 ≤ 140737488355328) :
    Calls Try.prog 52 #[.slice A P.length c] w fun e W => ∃ v, e = .returned v ∧ (∃ xs, OwnQ W w.heap.size v xs (P.map (·.2))) ∧ Kept w W := by
  have HX := Lib.hid (And.intro hP (And.intro hPl hPd))
  clear hP hPl hPd
  go_enter Try.func52, Try.ntmps52
  go_wp2_with fail
  obtain ⟨n, hn⟩ : ∃ n, n = P.length := ⟨_, rfl⟩
  rw [← hn]
  have HN := Lib.hid (And.intro hn (show n * 24 ≤ 140737488355328 by rw [hn]; exact HX.out.2.1))
  clear hn
  go_loopw [4, 3] (fun u1 v wr => ∃ (k : Nat) (xs : List SlC), k ≤ n ∧ u1 = .int .i64 k ∧ OwnQ wr w.heap.size v xs ((P.map (·.2)).take k) ∧ Kept w wr) (fun u1 _ _ => 140737488360000 - (intOf u1).toNat)
  case atStart => exact ⟨0, [], Nat.zero_le _, rfl, ⟨OwnRows.nil _ _ _, by simp, fun i hi => absurd hi (Nat.not_lt_zero i), fun i j hi => absurd hi (Nat.not_lt_zero i)⟩, Upd.refl _ _⟩
  case round =>
    obtain ⟨k, xs, hk, rfl, ⟨ho, hxl, hxe, hxa⟩, hu⟩ := hrel
    rcases Nat.lt_or_ge k n with hlt | hge
    · have hkP : k < P.length := by rw [← HN.out.1]; exact hlt
      have hk1 : (k : Int) < (n : Int) := by omega
      have hk5 : (k : Int) ≤ 140737488351232 := by have := HN.out.2; omega
      obtain ⟨b, off, hA, hcell, hdg, hnn, hcc⟩ := (HX.out.1.kept hu) k hkP
      have hPk := HX.out.2.2 _ (List.getElem_mem hkP)
      have htk : (P.map (·.2)).take (k + 1) = (P.map (·.2)).take k ++ [P[k].2] := by
        rw [List.take_succ_eq_append_getElem (by rw [List.length_map]; exact hkP), List.getElem_map]
      have hkl : ((P.map (·.2)).take k).length = k := by rw [List.length_take, List.length_map]; omega
      rw [hkl] at hxl
      generalize P[k] = p at *
      obtain ⟨⟨A2, n2, c2⟩, D⟩ := p
      simp only at hnn hcc hdg hPk htk
      subst hnn
      rw [SlC.v_eq] at hcell
      simp only at hcell
      subst hA
      have HR := Lib.hid (And.intro ho (And.intro hxl (And.intro hxe (And.intro hxa (And.intro hu (And.intro hdg (And.intro hPk (And.intro htk (And.intro hkl hlt)))))))))
      clear ho hxl hxe hxa hu hdg hPk htk hkl hcc hkP hlt hk
      go_wp2_with (at_builtin; first | (refine wpList_append_digs (R0 := []) (R := D) rfl (.tmp 13) (.tmp 17) rfl rfl (OwnRows.nil wr wr.heap.size _) A2 c2 rfl HR.out.2.2.2.2.2.1 (by have := HR.out.2.2.2.2.2.2.1; simp only [List.length_nil, Nat.zero_add]; omega) (Nat.le_refl _) ?_; intro v5 w5 hv5 hu5; rw [List.nil_append] at hv5; obtain ⟨A5, c5, rfl, hc5, hd5⟩ := OwnD.digs hv5; have H5 := Lib.hid (And.intro hv5 (show Kept wr w5 from hu5.mono fun k _ e => by cases e)); clear hv5 hu5 hc5 hd5) | (refine wpList_append_rows sl_rows rfl (.tmp 12) (.tmp 19) rfl rfl ((OwnRows.upd HR.out.1 H5.out.2 (fun _ _ h => h)).alloc (.cells (slA ⟨A5, D.length, c5⟩) 41)) ⟨A5, D.length, c5⟩ w5.heap.size 1 _ _ rfl (heap_alloc_new w5 _) (by have := HR.out.2.1; have := HR.out.2.2.2.2.2.2.2.2.2; have := HN.out.2; unfold maxLen; omega) (by have := HR.out.2.1; have := HR.out.2.2.2.2.2.2.2.2.2; have := HN.out.2; omega) (by rw [World.size_alloc]; have := HR.out.2.2.2.2.1.size; have := H5.out.2.size; omega) ?_; intro v7 w7 hown7 hu7 hnew7))
      obtain ⟨ho, hxl, hxe, hxa, hu, hdg, hPk, htk, hkl, hlt⟩ := HR.out
      obtain ⟨hv5, hu5⟩ := H5.out
      have hk6 : Kept w5 (w5.alloc (.cells (slA ⟨A5, D.length, c5⟩) 41)) := (Upd.refl _ w5).alloc _
      have hk56 : Kept wr (w5.alloc (.cells (slA ⟨A5, D.length, c5⟩) 41)) := hu5.then hk6 (fun _ _ h => h)
      have ho6 := (OwnRows.upd ho hu5 (fun _ _ h => h)).alloc (.cells (slA ⟨A5, D.length, c5⟩) 41)
      have hfar : ∀ {x : Value} {l : List Dig} {B : Nat}, OwnD (w5.alloc (.cells (slA ⟨A5, D.length, c5⟩) 41)) B x l → OwnD w7 B x l := fun hd => OwnRows.upd hd hu7 (fun k e e2 => by
        obtain ⟨c1, h1⟩ := own_cells hd e
        obtain ⟨c2, h2⟩ := own_cells ho6 e2
        rw [h1] at h2
        simp only [Option.some.injEq, Obj.cells.injEq] at h2
        exact absurd h2.2.1 (by decide))
      have hQ : OwnQ w7 w.heap.size v7 (xs ++ [⟨A5, D.length, c5⟩]) ((P.map (·.2)).take (k + 1)) := by
        rw [htk]
        refine ⟨hown7, by rw [List.length_append, List.length_append, hxl, hkl]; rfl, fun i hi hi' => ?_, fun i j hi hj hij m e e2 => ?_⟩
        · by_cases hi2 : i < xs.length
          · rw [List.getElem_append_left hi2, List.getElem_append_left (by rw [hkl, ← hxl]; exact hi2)]
            exact hfar (OwnRows.upd (hxe i hi2 (by rw [hkl, ← hxl]; exact hi2)) hk56 (fun _ _ h => h))
          · have hi3 : i = xs.length := by simp at hi; omega
            subst hi3
            have e1 : (xs ++ [(⟨A5, D.length, c5⟩ : SlC)])[xs.length] = ⟨A5, D.length, c5⟩ := by simp
            have e2 : ((P.map (·.2)).take k ++ [D])[xs.length]'hi' = D := by rw [List.getElem_append_right (by rw [hkl, hxl]; exact Nat.le_refl _)]; simp [hkl, hxl]
            rw [e1, e2]
            exact hfar (own_base (OwnRows.upd hv5 hk6 (fun _ _ h => h)) hu.size)
        · have hold : ∀ i (h : i < xs.length), ∀ m, xs[i].v.ownBlock = some m → m < wr.heap.size := fun i h m e => (World.ownsRow.lt (hxe i h (by rw [hkl, ← hxl]; exact h)) m e).2
          have hnew : ∀ m, (SlC.v ⟨A5, D.length, c5⟩).ownBlock = some m → wr.heap.size ≤ m := fun m e => (World.ownsRow.lt hv5 m e).1
          have hlast : ∀ i (h : i < (xs ++ [(⟨A5, D.length, c5⟩ : SlC)]).length), ¬ i < xs.length → (xs ++ [(⟨A5, D.length, c5⟩ : SlC)])[i] = ⟨A5, D.length, c5⟩ := fun i h h2 => by
            have h3 : i = xs.length := by simp at h; omega
            subst h3; simp
          by_cases hi2 : i < xs.length
          · rw [List.getElem_append_left hi2] at e
            by_cases hj2 : j < xs.length
            · rw [List.getElem_append_left hj2] at e2
              exact hxa i j hi2 hj2 hij m e e2
            · rw [hlast j hj hj2] at e2
              have := hold i hi2 m e; have := hnew m e2; omega
          · rw [hlast i hi hi2] at e
            by_cases hj2 : j < xs.length
            · rw [List.getElem_append_left hj2] at e2
              have := hold j hj2 m e2; have := hnew m e; omega
            · simp at hi hj; omega
      have HF := Lib.hid (And.intro hQ (show Kept w w7 from (hu.then hk56 (fun _ _ h => h)).then hu7 (fun i hi e => by have := (World.ownsRow.lt ho i e).1; omega)))
      have HLT := Lib.hid hlt
      clear ho hxl hxe hxa hu hdg hPk htk hkl hlt hv5 hu5 hk6 hk56 ho6 hfar hQ hown7 hu7 hnew7 HR H5
      go_wp2
      go_roundw
      case rel => exact ⟨k + 1, _, by have := HLT.out; omega, by show _ = _; go_num, HF.out.1, HF.out.2⟩
      case measure => have := HLT.out; have := HN.out.2; simp [intOf]; omega
    · obtain rfl : k = n := by omega
      have hk1 : ¬ ((k : Int) < (k : Int)) := by omega
      rw [List.take_of_length_le (by rw [List.length_map, ← HN.out.1]; exact Nat.le_refl _)] at hxl hxe
      have hQ : OwnQ wr w.heap.size u3 xs (P.map (·.2)) := ⟨ho, hxl, hxe, hxa⟩
      have HF := Lib.hid (And.intro hQ hu)
      clear ho hxl hxe hxa hu hge hk hQ
      go_wp2
      go_ret
      exact ⟨_, rfl, ⟨_, HF.out.1⟩, HF.out.2⟩
end Go.Proofs.Ytnncpjekcljfbaa
/- A row's cell set; a proof turned. -/
namespace Go.Proofs.Ytnncpjekcljfbaa
open Go.RowKit

theorem splice_set (l : List Value) (k : Nat) (v : Value) (h : k < l.length) : (splice l (k * 1) [v]).toArray = l.toArray.setIfInBounds k v := by
  apply Array.ext'
  apply List.ext_getElem?
  intro j
  rw [show (splice l (k * 1) [v]).toArray.toList = splice l (k * 1) [v] from rfl, splice_get _ _ _ _ (by simp; omega)]
  simp only [Array.toList_setIfInBounds, List.length_singleton, Nat.mul_one]
  by_cases hj : j = k
  · subst hj
    rw [List.getElem?_set_self h]
    simp
  · rw [List.getElem?_set_ne (fun e => hj e.symm)]
    simp
    omega
/-- a slice in a row set anew -/
theorem own_setCell {W : World} {B : Nat} {v : Value} {xs : List SlC} {t : TypeId} (h : OwnRows slA 1 W B t v xs) {k : Nat} (hk : k < xs.length) (x : SlC) :
    ∃ g, v.ownBlock = some g ∧ OwnRows slA 1 (W.setCell ⟨g, k, none⟩ (.slice x.A x.n x.c)) B t v (xs.set k x) ∧ W.frozen? ⟨g, k, none⟩ = false := by
  obtain ⟨g, cur, hg, hb, hlen, ho⟩ := OwnRows.turn slA_size (by omega) h hk x
  refine ⟨g, hg, ?_, frozen_of_row W g k _ _ hb⟩
  have e : W.setCell ⟨g, k, none⟩ (.slice x.A x.n x.c) = W.setRow g (splice cur (k * 1) (slA x).toList).toArray := by
    rw [setCell_eq_setRow W g k cur.toArray t (0, 0) _ hb, show (slA x).toList = [.slice x.A x.n x.c] from rfl, splice_set _ _ _ (by omega)]
  rw [e]; exact ho
theorem PrfAt.take {W : World} {B : Nat} {A : Option Addr} {l : List (SlC × List Dig)} (h : PrfAt W B A l) (k : Nat) : PrfAt W B A (l.take k) := fun S W' hu hs i hi => by
  have hi2 : i < l.length := by rw [List.length_take] at hi; omega
  obtain ⟨b, off, h1, h2, h3⟩ := h S W' hu hs i hi2
  have e : (l.take k)[i] = l[i] := List.getElem_take
  rw [e]; exact ⟨b, off, h1, h2, h3⟩
theorem slice_dss_h (W : World) (A : Option Addr) (len cap h : Nat) (hh : h ≤ cap) : (Instr.sliceAt 63 (.slice A len cap) none (some (.int .i64 (h : Int))) none).run Try.prog W = .ok (.slice A h cap) W := by
  have ht : Try.prog.underlying 63 = some (.slice (Try.prog.elem 63)) := by rw [dss_elem]; exact Try.underlying63
  have := run_slice_h (P := Try.prog) (w := W) 63 A len cap ht .i64 (h : Int) (by omega) (by omega)
  rw [run_sliceAt_slice (h := ht), this, dss_elem, ds_sizeOf]
  simp only [Result.andThen, sliced, Int.toNat_natCast]
  cases A with
  | none => simp
  | some a =>
    have h0 : a.add 0 = a := by unfold Addr.add; split <;> simp_all
    simp [h0]
theorem slice_ds_h (W : World) (A : Option Addr) (len cap h : Nat) (hh : h ≤ cap) : (Instr.sliceAt 41 (.slice A len cap) none (some (.int .i64 (h : Int))) none).run Try.prog W = .ok (.slice A h cap) W := by
  have ht : Try.prog.underlying 41 = some (.slice (Try.prog.elem 41)) := by rw [ds_elem]; exact Try.underlying41
  have := run_slice_h (P := Try.prog) (w := W) 41 A len cap ht .i64 (h : Int) (by omega) (by omega)
  rw [run_sliceAt_slice (h := ht), this, ds_elem, dig_sizeOf]
  simp only [Result.andThen, sliced, Int.toNat_natCast]
  cases A with
  | none => simp
  | some a =>
    have h0 : a.add 0 = a := by unfold Addr.add; split <;> simp_all
    simp [h0]
theorem OwnQ.cell {W : World} {B : Nat} {v : Value} {xs : List SlC} {P : List (List Dig)} (h : OwnQ W B v xs P) {k : Nat} (hk : k < xs.length) : ∃ g c, v = .slice (some ⟨g, 0, none⟩) xs.length c ∧ W.cell? ⟨g, k, none⟩ = some (.slice xs[k].A xs[k].n xs[k].c) ∧ ∃ cur, W.heap[g]? = some (.cells cur 41 (0, 0)) := by
  obtain ⟨g, c, hv, hg1, hg2, _⟩ := OwnRows.get slA_size h.1 hk
  have hcell := World.ownsRow.cells h.1 (g := g) (by rw [hv]; rfl) k xs[k].v (by
    have := rowsOf_get slA_size xs k 0 hk (by omega)
    rw [Nat.mul_one, Nat.add_zero] at this
    rw [this]; rfl)
  rw [add_none, Nat.zero_add, SlC.v_eq] at hcell
  exact ⟨g, c, hv, hcell, own_cells h.1 (by rw [hv]; rfl)⟩
theorem OwnD.cut {W : World} {B : Nat} {A : Option Addr} {n c : Nat} {D : List Dig} (h : OwnD W B (.slice A n c) D) (hn : 0 < D.length) (k : Nat) (hk : k ≤ D.length) : OwnD W B (.slice A k c) (D.take k) := by
  rcases h.2 with ⟨_, h0⟩ | ⟨g, cap, cur, hv, hb, hg, h1, h2, h3, h4⟩
  · omega
  · simp only [Value.slice.injEq] at hv
    obtain ⟨rfl, rfl, rfl⟩ := hv
    have hl : (D.take k).length = k := by rw [List.length_take]; omega
    refine ⟨by rw [rowsOf_length dA_size, hl], .inr ⟨g, c, cur, by rw [hl], hb, hg, by rw [hl]; omega, h2, h3, ?_⟩⟩
    rw [hl, rowsOf_dA, flatD_take, encB_take]
    rw [rowsOf_dA] at h4
    rw [← h4, List.take_take]
    congr 1
    omega
theorem OwnQ.set {W W' : World} {B : Nat} {v : Value} {xs : List SlC} {P : List (List Dig)} (h : OwnQ W B v xs P) {k : Nat} (hk : k < xs.length) {x : SlC} {l : List Dig} (ho : OwnRows slA 1 W' B 41 v (xs.set k x)) (hx : OwnD W' B x.v l) {S : Nat → Prop} (hu : Upd S W W')
    (hs : ∀ i (hi : i < xs.length), i ≠ k → ∀ m, xs[i].v.ownBlock = some m → ¬ S m) : OwnP W' B v (P.set k l) := by
  obtain ⟨h1, h2, h3, h4⟩ := h
  refine ⟨xs.set k x, ho, by rw [List.length_set, List.length_set, h2], fun i hi hi' => ?_⟩
  by_cases hik : i = k
  · subst hik
    rw [List.getElem_set_self, List.getElem_set_self]; exact hx
  · rw [List.getElem_set_ne (fun e => hik e.symm), List.getElem_set_ne (fun e => hik e.symm)]
    have hi2 : i < xs.length := by rw [List.length_set] at hi; exact hi
    exact OwnRows.upd (h3 i hi2 (by rw [← h2]; exact hi2)) hu (hs i hi2 hik)
end Go.Proofs.Ytnncpjekcljfbaa
